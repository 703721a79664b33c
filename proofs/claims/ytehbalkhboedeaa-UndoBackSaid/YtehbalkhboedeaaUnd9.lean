/- The law of the log. -/
import Derived.Test.YtehbalkhboedeaaUnd8
namespace Go.Proofs.Ytehbalkhboedeaa
open Go Go.Eng Go.RowKit
set_option maxRecDepth 100000
set_option maxHeartbeats 8000000
set_option linter.unusedVariables false
set_option linter.unusedSimpArgs false
theorem note2_fn (l : Lg) (k : Int) (r : Rw) (hl : l.length ≤ 1000) :
    FnM Try.prog 15 [.c (.p 0 0), .c (.i .i64 k), .a (encP r), .c (.i .i64 r.v)] [logI, logA (gOf l)] [.p 0 0] (.c (.b (decide (1 ≤ k)))) [logI, logA (gOf (noteL l k r))] := by
  rw [gOf_note]; exact note_fn (gOf l) k r (Nat.le_trans (gOf_len l k) hl)
theorem drop2_fn (l : Lg) (k : Int) (hl : LgOk l) :
    FnM Try.prog 13 [.c (.p 0 0), .c (.i .i64 k)] [logI, logA (gOf l)] [.p 0 0] (.c (.i .i64 (gOf l k).length)) [logI, logA (gOf (dropL l k))] := by
  rw [gOf_drop]; exact ldrop_fn l k hl
theorem back2_fn (l : Lg) (k : Int) (hl : LgOk l) :
    FnM Try.prog 11 [.c (.p 0 0), .c (.i .i64 k)] [logI, logA (gOf l)] [.p 0 0] (.t [.a (encU (backR l k)), .c (.b (lastIx l k l.length).isSome)]) [logI, logA (gOf (backL l k))] := by
  obtain ⟨h1, h2, h3⟩ := back_all l k
  rw [h1, h2, h3]; exact lback_fn l k hl
theorem awake21_fn : Eng.Fn Try.prog 9 [] (Tells (.c (.b true))) := by
  refine Eng.Fn.ofZ tab_ok Try.func9 (by kernel_rfl) (by kernel_rfl) trivial (fun w0 => ?_)
  conv => whnf
  refine callx_m new_fn [] (by kernel_rfl) trivial trivial ?_
  conv => whnf
  refine callx_m (note2_fn [] 1 ⟨0, 0, 0, 0, 0, 5⟩ (by simp)) [0, 1] (by kernel_rfl) ?_ ?_ ?_
  · repeat' (first | exact trivial | exact entV_refl _ | exact ⟨rfl, rfl⟩ | rfl | apply And.intro)
  · exact ⟨⟨rfl, entL_refl _⟩, fun _ _ _ _ h => h, trivial⟩
  conv => whnf
  have e1 : noteL [] 1 ⟨0, 0, 0, 0, 0, 5⟩ = [(1, ⟨0, 0, 0, 0, 0, 5⟩)] := by decide
  rw [e1]
  refine callx_m (note2_fn [(1, ⟨0, 0, 0, 0, 0, 5⟩)] 1 ⟨0, 0, 0, 0, 0, 6⟩ (by simp)) [0, 1] (by kernel_rfl) ?_ ?_ ?_
  · repeat' (first | exact trivial | exact entV_refl _ | exact ⟨rfl, rfl⟩ | rfl | apply And.intro)
  · exact ⟨⟨rfl, entL_refl _⟩, fun _ _ _ _ h => h, trivial⟩
  conv => whnf
  have e2 : noteL [(1, ⟨0, 0, 0, 0, 0, 5⟩)] 1 ⟨0, 0, 0, 0, 0, 6⟩ = [(1, ⟨0, 0, 0, 0, 0, 5⟩), (1, ⟨0, 0, 0, 0, 0, 6⟩)] := by decide
  rw [e2]
  have ok2 : LgOk [(1, ⟨0, 0, 0, 0, 0, 5⟩), (1, ⟨0, 0, 0, 0, 0, 6⟩)] := ⟨by decide, by intro p hp; simp at hp; rcases hp with rfl | rfl <;> decide⟩
  refine callx_m (back2_fn _ 1 ok2) [0, 1] (by kernel_rfl) ?_ ?_ ?_
  · repeat' (first | exact trivial | exact entV_refl _ | exact ⟨rfl, rfl⟩ | rfl | apply And.intro)
  · exact ⟨⟨rfl, entL_refl _⟩, fun _ _ _ _ h => h, trivial⟩
  conv => whnf
  have e3 : lastIx [(1, ⟨0, 0, 0, 0, 0, 5⟩), (1, ⟨0, 0, 0, 0, 0, 6⟩)] 1 2 = some 1 := by decide
  have e4 : backR [(1, ⟨0, 0, 0, 0, 0, 5⟩), (1, ⟨0, 0, 0, 0, 0, 6⟩)] 1 = ⟨0, 0, 0, 0, 0, 6⟩ := by decide
  have e5 : backL [(1, ⟨0, 0, 0, 0, 0, 5⟩), (1, ⟨0, 0, 0, 0, 0, 6⟩)] 1 = [(1, ⟨0, 0, 0, 0, 0, 5⟩)] := by decide
  rw [e4, e5]
  refine And.intro (fun _ => ?_) (fun h => absurd h (by decide))
  conv => whnf
  refine And.intro (fun _ => ?_) (fun h => absurd h (by decide))
  conv => whnf
  refine And.intro (fun _ => ?_) (fun h => absurd h (by decide))
  conv => whnf
  refine And.intro (fun _ => ?_) (fun h => absurd h (by decide))
  conv => whnf
  have ok3 : LgOk [(1, ⟨0, 0, 0, 0, 0, 5⟩)] := ⟨by decide, by intro p hp; simp at hp; subst hp; decide⟩
  refine callx_m (len_fn _ 1 ok3) [0, 1] (by kernel_rfl) ?_ ?_ ?_
  · repeat' (first | exact trivial | exact entV_refl _ | exact ⟨rfl, rfl⟩ | rfl | apply And.intro)
  · exact ⟨⟨rfl, entL_refl _⟩, fun _ _ _ _ h => h, trivial⟩
  conv => whnf
  decide
/-- What is done. -/
structure Dd where
  kind : Int
  tx : Int
  r : Rw
deriving Inhabited
def encDd (d : Dd) : List XC := .i .i64 d.kind :: .i .i64 d.tx :: encU d.r
abbrev ddsX (l : List Dd) : XC := rowX encDd default 8 l
def stepL (l : Lg) (d : Dd) : Lg := if d.kind = 1 then backL l d.tx else if d.kind = 2 then dropL l d.tx else noteL l d.tx d.r
def stL (ds : List Dd) (i : Nat) : Lg := (ds.take i).foldl stepL []
theorem stL_snoc {ds : List Dd} {i : Nat} (h : i < ds.length) : stL ds (i + 1) = stepL (stL ds i) (ds.getD i default) := by
  unfold stL
  rw [take_snocU default h, List.foldl_append]; rfl
theorem stepL_len (l : Lg) (d : Dd) : (stepL l d).length ≤ l.length + 1 := by
  unfold stepL
  split
  · have := back_len l d.tx; omega
  · split
    · have := dropL_len l d.tx; omega
    · unfold noteL
      split
      · simp
      · omega
theorem foldl_len (ds : List Dd) : ∀ l : Lg, (ds.foldl stepL l).length ≤ l.length + ds.length := by
  induction ds with
  | nil => intro l; simp
  | cons d ds ih =>
    intro l
    have := ih (stepL l d)
    have := stepL_len l d
    simp only [List.foldl_cons, List.length_cons]; omega
theorem stL_len (ds : List Dd) (i : Nat) : (stL ds i).length ≤ ds.length := by
  have := foldl_len (ds.take i) []
  have := List.length_take_le' i ds
  unfold stL
  simp only [List.length_nil] at *
  omega
theorem foldl_ok (ds : List Dd) : ∀ l : Lg, (∀ p ∈ l, (Lit.int .i64 p.1).wf = true) → (∀ d ∈ ds, (Lit.int .i64 d.tx).wf = true) → ∀ p ∈ ds.foldl stepL l, (Lit.int .i64 p.1).wf = true := by
  induction ds with
  | nil => intro l h _; exact h
  | cons d ds ih =>
    intro l h hw
    refine ih _ ?_ (fun e he => hw e (by simp [he]))
    intro p hp
    unfold stepL at hp
    split at hp
    · exact h p (back_mem hp)
    · split at hp
      · exact h p (List.mem_filter.1 hp).1
      · exact lgOk_note h (hw d (by simp)) p hp
theorem stL_ok {ds : List Dd} (hw : ∀ d ∈ ds, (Lit.int .i64 d.tx).wf = true) (i : Nat) : ∀ p ∈ stL ds i, (Lit.int .i64 p.1).wf = true :=
  foldl_ok _ [] (by simp) fun d hd => hw d (List.mem_of_mem_take hd)
theorem stepL_pos {l : Lg} {d : Dd} (h : ∀ p ∈ l, 1 ≤ p.1) : ∀ p ∈ stepL l d, 1 ≤ p.1 := by
  intro p hp
  unfold stepL at hp
  split at hp
  · exact h p (back_mem hp)
  · split at hp
    · exact h p (List.mem_filter.1 hp).1
    · unfold noteL at hp
      split at hp
      · rename_i hk
        rcases List.mem_append.1 hp with hp | hp
        · exact h p hp
        · simp at hp; subst hp; exact hk
      · exact h p hp
theorem foldl_pos (ds : List Dd) : ∀ l : Lg, (∀ p ∈ l, 1 ≤ p.1) → ∀ p ∈ ds.foldl stepL l, 1 ≤ p.1 := by
  induction ds with
  | nil => intro l h; exact h
  | cons d ds ih => intro l h; exact ih _ (stepL_pos h)
theorem stL_pos (ds : List Dd) (i : Nat) : ∀ p ∈ stL ds i, 1 ≤ p.1 := foldl_pos _ [] (by simp)
def lastK (ks : List Int) (i : Nat) : Int := if i = 0 then 0 else ks.getD (i - 1) 0
theorem lastK_succ {ks : List Int} {i : Nat} (h : i < ks.length) : lastK ks (i + 1) = ks.getD i 0 := by simp [lastK]
theorem lastK_lt {l : Lg} {ks : List Int} (hks : KsOk (gOf l) ks) (hpos : ∀ p ∈ l, 1 ≤ p.1) {i : Nat} (h : i < ks.length) : lastK ks i < ks.getD i 0 := by
  unfold lastK
  split
  · have h1 := (hks.mem _).1 (mem_atU 0 h)
    obtain ⟨p, hp, e⟩ := List.mem_map.1 (gOf_ne.1 h1)
    have := hpos p hp
    omega
  · have := (List.pairwise_iff_getElem.1 hks.ris) (i - 1) i (by omega) h (by omega)
    rw [List.getD_eq_getElem?_getD, List.getD_eq_getElem?_getD, List.getElem?_eq_getElem h, List.getElem?_eq_getElem (show i - 1 < ks.length by omega)]
    exact this
def sumK (g : Int → List Rw) (ks : List Int) (i : Nat) : Nat := ((ks.take i).map fun k => (g k).length).sum
theorem sumK_snoc {g : Int → List Rw} {ks : List Int} {i : Nat} (h : i < ks.length) : sumK g ks (i + 1) = sumK g ks i + (g (ks.getD i 0)).length := by
  unfold sumK
  rw [take_snocU 0 h, List.map_append, List.sum_append]
  simp
theorem sum_one {a : Int} : ∀ {ks : List Int}, ks.Nodup → a ∈ ks → (ks.map fun k => if a = k then 1 else 0).sum = 1
  | k :: ks, hn, ha => by
    have h1 := List.nodup_cons.1 hn
    rw [List.map_cons, List.sum_cons]
    by_cases e : a = k
    · subst e
      have : ∀ m : List Int, a ∉ m → (m.map fun k => if a = k then 1 else 0).sum = 0 := fun m => by
        induction m with
        | nil => intro _; rfl
        | cons x m ih =>
          intro h
          rw [List.map_cons, List.sum_cons, ih (fun h2 => h (by simp [h2])), if_neg (fun e => h (by simp [e]))]
      rw [this ks h1.1, if_pos rfl]
    · rw [if_neg e, sum_one h1.2 (by simpa [e] using ha)]
  | [], _, ha => by simp at ha
theorem sum_all : ∀ {l : Lg} {ks : List Int}, ks.Nodup → (∀ p ∈ l, p.1 ∈ ks) → (ks.map fun k => (gOf l k).length).sum = l.length
  | [], ks, _, _ => by
    have : ∀ m : List Int, (m.map fun k => (gOf ([] : Lg) k).length).sum = 0 := fun m => by
      induction m with
      | nil => rfl
      | cons x m ih => rw [List.map_cons, List.sum_cons, ih]; rfl
    exact this ks
  | p :: l, ks, hn, h => by
    have ih := sum_all (l := l) hn fun q hq => h q (by simp [hq])
    have e : ∀ k, (gOf (p :: l) k).length = (if p.1 = k then 1 else 0) + (gOf l k).length := fun k => by
      rw [show p :: l = [p] ++ l from rfl, gOf_append, gOf_one, List.length_append]
      split <;> rfl
    have e2 : ∀ m : List Int, (m.map fun k => (gOf (p :: l) k).length).sum = (m.map fun k => if p.1 = k then 1 else 0).sum + (m.map fun k => (gOf l k).length).sum := fun m => by
      induction m with
      | nil => rfl
      | cons x m ih => rw [List.map_cons, List.map_cons, List.map_cons, List.sum_cons, List.sum_cons, List.sum_cons, ih, e x]; omega
    rw [e2, sum_one hn (h p (by simp)), ih, List.length_cons]; omega
theorem sumK_all {l : Lg} {ks : List Int} (h : KsOk (gOf l) ks) : sumK (gOf l) ks ks.length = l.length := by
  unfold sumK
  rw [List.take_length]
  refine sum_all ?_ fun p hp => (h.mem _).2 (gOf_ne.2 (List.mem_map.2 ⟨p, hp, rfl⟩))
  exact h.ris.imp fun h => by omega
theorem sumK_le {l : Lg} {ks : List Int} (h : KsOk (gOf l) ks) (i : Nat) : sumK (gOf l) ks i ≤ l.length := by
  rw [← sumK_all h]
  unfold sumK
  conv => rhs; rw [List.take_length, ← List.take_append_drop i ks, List.map_append, List.sum_append]
  omega
theorem undo_fn (ds : List Dd) (hw : ∀ d ∈ ds, (Lit.int .i64 d.tx).wf = true) : Eng.Fn Try.prog 3 [.c (ddsX ds)] (Tells (.c (.b true))) := by
  refine Eng.Fn.ofZ tab_ok Try.func3 (by kernel_rfl) (by kernel_rfl) trivial (fun w0 => ?_)
  conv => whnf
  refine callx_tells awake21_fn rfl trivial ?_
  conv => whnf
  refine And.intro (fun h => absurd h (by decide)) (fun _ => ?_)
  conv => whnf
  refine And.intro (fun h1 => ?_) (fun h1 => ?_)
  · conv => whnf
  · have h1 : ds.length ≤ 60 := by simp at h1; omega
    conv => whnf
    refine callx_m new_fn [] (by kernel_rfl) trivial trivial ?_
    conv => whnf
    refine loopi_h tab_ok (fun i => i ≤ ds.length) (fun i => [(2, .c (.p 0 0)), (3, .c (.p 1 0)), (4, .c (.p 4 0)), (26, .c (ddsX ds)), (27, .c (.i .i64 ds.length)), (28, .c (.i .i64 i))]) (fun i => [(2, logA (gOf (stL ds i))), (3, refI (stL ds i))]) (fun i => ds.length - i) 0 148 rfl (Nat.zero_le _) ?_ (fun i hi => ?_)
    · conv => whnf
      refine ⟨?_, ?_, rfl⟩ <;> repeat' (first | exact trivial | exact ⟨rfl, entTs_refl _⟩ | exact entV_refl _ | exact entTs_refl _ | exact entL_refl _ | exact ⟨rfl, rfl⟩ | exact (fun _ _ _ _ h => h) | rfl | apply And.intro)
    · have hlen := stL_len ds i
      have hok := stL_ok hw i
      have hlg : LgOk (stL ds i) := ⟨by omega, hok⟩
      conv => whnf
      refine And.intro (fun h2 => ?_) (fun h2 => ?_)
      · have h2 : i < ds.length := by simp at h2; omega
        have hstep := stL_snoc h2
        have hdw := hw _ (mem_atU default h2)
        have hok2 := stL_ok hw (i + 1)
        have hlen2 := stL_len ds (i + 1)
        conv => whnf
        refine ⟨by omega, ?_⟩
        conv => whnf
        rw [Int.toNat_natCast]
        generalize ds.getD i default = d at *
        generalize stL ds i = l at *
        rw [hstep] at hok2 hlen2
        have hlg2 : LgOk (stepL l d) := ⟨by omega, hok2⟩
        refine And.intro (fun h3 => ?_) (fun h3 => ?_)
        · have h3 : d.kind = 1 := by simpa using h3
          have hsl : stepL l d = backL l d.tx := by unfold stepL; rw [if_pos h3]
          rw [hsl] at hstep hlg2
          conv => whnf
          refine callx_m (back2_fn l d.tx hlg) [1, 2] (by kernel_rfl) ?_ ?_ ?_
          · repeat' (first | exact trivial | exact entV_refl _ | exact ⟨rfl, rfl⟩ | rfl | apply And.intro)
          · exact ⟨⟨rfl, entL_refl _⟩, fun _ _ _ _ h => h, trivial⟩
          conv => whnf
          refine callx_m (rback_fn l d.tx hlg.1) [3] (by kernel_rfl) ?_ ?_ ?_
          · repeat' (first | exact trivial | exact entV_refl _ | exact ⟨rfl, rfl⟩ | rfl | apply And.intro)
          · exact ⟨⟨rfl, entL_refl _⟩, trivial⟩
          conv => whnf
          refine And.intro (fun _ => ?_) (fun h => absurd h (by simp))
          conv => whnf
          rw [← hsl]
          refine drawx_plan tab_ok [1, 2, 3] (.take 0 (.take 1 (.take 2 (.take 3 (.take 4 (.take 5 (.take 7 (.take 8 (.take 9 (.go [6, 10, 11, 12, 13])))))))))) (by kernel_rfl) (by kernel_rfl) (by kernel_rfl) ?_
          conv => whnf
          refine And.intro (fun h5 => absurd h5 (by simp)) (fun h5 => ?_)
          conv => whnf
          rw [← hsl] at hlg2
          refine callt_m (len_fn (stepL l d) d.tx hlg2) [1, 2] (by kernel_rfl) (by kernel_rfl) ?_ ?_ ?_
          · repeat' (first | exact trivial | exact entV_refl _ | exact ⟨rfl, rfl⟩ | rfl | apply And.intro)
          · exact ⟨⟨rfl, entL_refl _⟩, fun _ _ _ _ h => h, trivial⟩
          conv => whnf
          refine callt_m (of20_fn (stepL l d) d.tx hlg2.1) [3] (by kernel_rfl) (by kernel_rfl) ?_ ?_ ?_
          · repeat' (first | exact trivial | exact entV_refl _ | exact ⟨rfl, rfl⟩ | rfl | apply And.intro)
          · exact ⟨⟨rfl, entL_refl _⟩, trivial⟩
          conv => whnf
          refine And.intro (fun h => absurd h (by simp)) (fun _ => ?_)
          conv => whnf
          refine ⟨i + 1, by omega, by omega, rfl, ?_⟩
          rw [show stL ds (i + 1) = stepL l d from hstep.trans hsl.symm]
          conv => whnf
          refine ⟨?_, ?_, rfl⟩ <;> repeat' (first | exact trivial | exact ⟨rfl, entTs_refl _⟩ | exact entV_refl _ | exact entTs_refl _ | exact entL_refl _ | exact ⟨rfl, rfl⟩ | exact wrap_succ (by omega) | exact (fun _ _ _ _ h => h) | rfl | apply And.intro)
        · have h3 : ¬ d.kind = 1 := by simpa using h3
          conv => whnf
          refine And.intro (fun h4 => ?_) (fun h4 => ?_)
          · have h4 : d.kind = 2 := by simpa using h4
            have hsl : stepL l d = dropL l d.tx := by unfold stepL; rw [if_neg h3, if_pos h4]
            rw [hsl] at hstep hlg2
            conv => whnf
            refine drawx_plan tab_ok [1, 2, 3] (.take 0 (.take 1 (.take 2 (.take 4 (.take 5 (.take 6 (.go [3, 7, 8, 9]))))))) (by kernel_rfl) (by kernel_rfl) (by kernel_rfl) ?_
            conv => whnf
            refine callt_m (drop2_fn l d.tx hlg) [1, 2] (by kernel_rfl) (by kernel_rfl) ?_ ?_ ?_
            · repeat' (first | exact trivial | exact entV_refl _ | exact ⟨rfl, rfl⟩ | rfl | apply And.intro)
            · exact ⟨⟨rfl, entL_refl _⟩, fun _ _ _ _ h => h, trivial⟩
            conv => whnf
            refine callt_m (rdrop_fn l d.tx hlg.1) [3] (by kernel_rfl) (by kernel_rfl) ?_ ?_ ?_
            · repeat' (first | exact trivial | exact entV_refl _ | exact ⟨rfl, rfl⟩ | rfl | apply And.intro)
            · exact ⟨⟨rfl, entL_refl _⟩, trivial⟩
            conv => whnf
            rw [← hsl]
            refine drawx_plan tab_ok [1, 2, 3] (.take 0 (.take 1 (.take 2 (.take 3 (.take 4 (.take 5 (.take 7 (.take 8 (.take 9 (.go [6, 10, 11, 12, 13])))))))))) (by kernel_rfl) (by kernel_rfl) (by kernel_rfl) ?_
            conv => whnf
            refine And.intro (fun h5 => absurd h5 (by simp)) (fun h5 => ?_)
            conv => whnf
            rw [← hsl] at hlg2
            refine callt_m (len_fn (stepL l d) d.tx hlg2) [1, 2] (by kernel_rfl) (by kernel_rfl) ?_ ?_ ?_
            · repeat' (first | exact trivial | exact entV_refl _ | exact ⟨rfl, rfl⟩ | rfl | apply And.intro)
            · exact ⟨⟨rfl, entL_refl _⟩, fun _ _ _ _ h => h, trivial⟩
            conv => whnf
            refine callt_m (of20_fn (stepL l d) d.tx hlg2.1) [3] (by kernel_rfl) (by kernel_rfl) ?_ ?_ ?_
            · repeat' (first | exact trivial | exact entV_refl _ | exact ⟨rfl, rfl⟩ | rfl | apply And.intro)
            · exact ⟨⟨rfl, entL_refl _⟩, trivial⟩
            conv => whnf
            refine And.intro (fun h => absurd h (by simp)) (fun _ => ?_)
            conv => whnf
            refine ⟨i + 1, by omega, by omega, rfl, ?_⟩
            rw [show stL ds (i + 1) = stepL l d from hstep.trans hsl.symm]
            conv => whnf
            refine ⟨?_, ?_, rfl⟩ <;> repeat' (first | exact trivial | exact ⟨rfl, entTs_refl _⟩ | exact entV_refl _ | exact entTs_refl _ | exact entL_refl _ | exact ⟨rfl, rfl⟩ | exact wrap_succ (by omega) | exact (fun _ _ _ _ h => h) | rfl | apply And.intro)
          · have h4 : ¬ d.kind = 2 := by simpa using h4
            have hsl : stepL l d = noteL l d.tx d.r := by unfold stepL; rw [if_neg h3, if_neg h4]
            rw [hsl] at hstep hlg2
            conv => whnf
            refine drawx_plan tab_ok [1, 2, 3] (.take 0 (.take 1 (.take 2 (.take 3 (.take 4 (.take 5 (.take 6 (.take 7 (.take 8 (.take 10 (.take 11 (.take 12 (.take 13 (.take 14 (.take 15 (.take 16 (.take 17 (.take 18 (.go [9, 19, 20, 21]))))))))))))))))))) (by kernel_rfl) (by kernel_rfl) (by kernel_rfl) ?_
            conv => whnf
            refine callt_m (note2_fn l d.tx d.r hlg.1) [1, 2] (by kernel_rfl) (by kernel_rfl) ?_ ?_ ?_
            · repeat' (first | exact trivial | exact entV_refl _ | exact ⟨rfl, rfl⟩ | rfl | apply And.intro)
            · exact ⟨⟨rfl, entL_refl _⟩, fun _ _ _ _ h => h, trivial⟩
            conv => whnf
            refine callt_m (radd_fn l d.tx d.r hlg.1) [3] (by kernel_rfl) (by kernel_rfl) ?_ ?_ ?_
            · repeat' (first | exact trivial | exact entV_refl _ | exact ⟨rfl, rfl⟩ | rfl | apply And.intro)
            · exact ⟨⟨rfl, entL_refl _⟩, trivial⟩
            conv => whnf
            rw [← hsl]
            refine drawx_plan tab_ok [1, 2, 3] (.take 0 (.take 1 (.take 2 (.take 3 (.take 4 (.take 5 (.take 7 (.take 8 (.take 9 (.go [6, 10, 11, 12, 13])))))))))) (by kernel_rfl) (by kernel_rfl) (by kernel_rfl) ?_
            conv => whnf
            refine And.intro (fun h5 => absurd h5 (by simp)) (fun h5 => ?_)
            conv => whnf
            rw [← hsl] at hlg2
            refine callt_m (len_fn (stepL l d) d.tx hlg2) [1, 2] (by kernel_rfl) (by kernel_rfl) ?_ ?_ ?_
            · repeat' (first | exact trivial | exact entV_refl _ | exact ⟨rfl, rfl⟩ | rfl | apply And.intro)
            · exact ⟨⟨rfl, entL_refl _⟩, fun _ _ _ _ h => h, trivial⟩
            conv => whnf
            refine callt_m (of20_fn (stepL l d) d.tx hlg2.1) [3] (by kernel_rfl) (by kernel_rfl) ?_ ?_ ?_
            · repeat' (first | exact trivial | exact entV_refl _ | exact ⟨rfl, rfl⟩ | rfl | apply And.intro)
            · exact ⟨⟨rfl, entL_refl _⟩, trivial⟩
            conv => whnf
            refine And.intro (fun h => absurd h (by simp)) (fun _ => ?_)
            conv => whnf
            refine ⟨i + 1, by omega, by omega, rfl, ?_⟩
            rw [show stL ds (i + 1) = stepL l d from hstep.trans hsl.symm]
            conv => whnf
            refine ⟨?_, ?_, rfl⟩ <;> repeat' (first | exact trivial | exact ⟨rfl, entTs_refl _⟩ | exact entV_refl _ | exact entTs_refl _ | exact entL_refl _ | exact ⟨rfl, rfl⟩ | exact wrap_succ (by omega) | exact (fun _ _ _ _ h => h) | rfl | apply And.intro)
      · have h2 : i = ds.length := by simp at h2; omega
        subst h2
        have hlg : LgOk (stL ds ds.length) := ⟨by have := stL_len ds ds.length; omega, stL_ok hw _⟩
        have hpos := stL_pos ds ds.length
        generalize stL ds ds.length = l at *
        have hl := hlg
        conv => whnf
        refine callx_inline tab_ok Try.func19 (by kernel_rfl) (by kernel_rfl) (fun us => ?_)
        conv => whnf
        refine ⟨rfl, ?_⟩
        conv => whnf
        refine rangex_in tab_ok rfl rfl Try.func42 (by kernel_rfl) (by kernel_rfl) (fun ln us => ?_)
        conv => whnf
        refine callx_inline tab_ok Try.func41 (by kernel_rfl) (by kernel_rfl) (fun us2 => ?_)
        conv => whnf
        refine opx_nemap tab_ok rfl rfl rfl rfl rfl ?_
        conv => whnf
        refine ⟨rfl, ?_⟩
        conv => whnf
        refine callx_inline tab_ok Try.func44 (by kernel_rfl) (by kernel_rfl) (fun us3 => ?_)
        conv => whnf
        refine ⟨rfl, ?_⟩
        conv => whnf
        refine callx_spl ⟨_, Try.func43, by kernel_rfl, by kernel_rfl⟩ (openOut (it := 2) rfl) ?_
        intro dom vv hd
        conv => whnf
        have hdl := dom_len hd
        refine callx_m (keysLog_m (va := false) (vz := 1) (val := fun q => [.v (vv q)]) (dom := dom) (by have := hl.1; omega) (fun q hq => ?_) [.ow 0] 71) [2, 13] (by kernel_rfl) ⟨ent_fnU rfl, trivial⟩ ?_ ?_
        · have h1 := hd.2.1 q hq
          match q, h1, hq with
          | [x], _, hq =>
            obtain ⟨p, hp, e⟩ := List.mem_map.1 (gOf_ne.1 ((hd.1 x).1 hq))
            show (Lit.int .i64 x).wf = true
            rw [← e]; exact hl.2 p hp
        · repeat' (first | exact trivial | exact ⟨rfl, rfl⟩ | exact entL_refl _ | exact (fun _ _ _ _ h => h) | rfl | apply And.intro)
        conv => whnf
        have hks := dom_ks hd
        have hkl : (sortL (dom.map fun q => q.headD 0)).length ≤ 1000 := by
          have := hl.1
          rw [sortL, List.length_mergeSort, List.length_map]; omega
        generalize sortL (dom.map fun q => q.headD 0) = ks at *
        refine loopx_spl (closeNone (it := 2) (g := gOf l) 14 (gOf l) rfl rfl rfl (fun _ _ => rfl) (fun _ h => h) (fun _ _ => rfl) hd) ?_
        conv => whnf
        refine loopx_gh (.frz 15) ?_
        conv => whnf
        refine loopi_h tab_ok (fun (i : Nat × Nat) => i.1 ≤ ks.length ∧ i.2 ≤ 1000) (fun i => [(0, .c (.v (.func (.yield ln) #[] #[]))), (1, .c (.p 8 0)), (15, .c (intsX ks)), (16, .c (.i .i64 ks.length)), (17, .c (.i .i64 i.1))]) (fun i => [(5, .cells 3 [.i .i64 (lastK ks i.1)]), (6, .cells 3 [.i .i64 (i.2 : Nat)])]) (fun i => ks.length - i.1) (0, 0) 40 rfl ⟨Nat.zero_le _, Nat.zero_le _⟩ ?_ (fun i hi => ?_)
        · conv => whnf
          refine ⟨?_, ?_, rfl⟩ <;> repeat' (first | exact trivial | exact ⟨rfl, entTs_refl _⟩ | exact entV_refl _ | exact entTs_refl _ | exact entL_refl _ | exact ⟨rfl, rfl⟩ | exact ints_entU (entLL_refl _) | exact (fun _ _ _ _ h => h) | rfl | apply And.intro)
          all_goals simp
        · obtain ⟨i, nn⟩ := i
          obtain ⟨hi, hnn⟩ := hi
          have hi : i ≤ ks.length := hi
          have hnn : nn ≤ 1000 := hnn
          conv => whnf
          refine And.intro (fun h1 => ?_) (fun h1 => ?_)
          · have h1 : i < ks.length := by simp at h1; omega
            have hxm := mem_atU 0 h1
            have hlast := lastK_lt hks hpos h1
            have hlast2 := lastK_succ h1
            conv => whnf
            refine ⟨by omega, ?_⟩
            conv => whnf
            rw [Int.toNat_natCast]
            generalize ks.getD i 0 = x at *
            have hne := (hks.mem x).1 hxm
            have hgl := gOf_len l x
            have hl1 := hl.1
            refine opx_spl (fun c e => Op.noConfusion e) (openIn (it := 2) x rfl hne) ?_
            intro dom2 vv2 hd2 hkd2
            conv => whnf
            refine opx_valr (fun c e => Op.noConfusion e) (valr_look tab_ok (q := x) (u := vv2 [x]) (hd := 18) rfl rfl rfl rfl rfl rfl rfl hkd2) ?_
            conv => whnf
            refine callx_of_callf (callf_row (cloneU_own (gOf l x) (by omega)) ⟨us_ent2 (entLL_refl _), trivial⟩ rfl encU_len encU_flat ?_)
            conv => whnf
            refine loopx_spl (closeRow (it := 2) (g := gOf l) 16 17 18 x (gOf l) rfl rfl rfl rfl rfl (fun q _ => ?_) (fun q hq hne => List.mem_filter.2 ⟨hq, by simpa using hne⟩) rfl (fun _ _ => rfl) hd2) ?_
            · by_cases e : q = [x]
              · rw [if_pos e, e]
              · rw [if_neg e]
            conv => whnf
            refine loopx_gh (.frz 19) ?_
            conv => whnf
            refine loopi_h tab_ok (fun j => j ≤ (gOf l x).length) (fun j => [(0, .c (.v (.func (.yield ln) #[] #[]))), (1, .c (.p 8 0)), (4, .c (.i .i64 x)), (15, .c (intsX ks)), (16, .c (.i .i64 ks.length)), (17, .c (.i .i64 i)), (27, .c (usX (gOf l x))), (28, .c (.i .i64 (gOf l x).length)), (29, .c (.i .i64 j))]) (fun j => [(5, .cells 3 [.i .i64 (if j = 0 then lastK ks i else x)]), (6, .cells 3 [.i .i64 (if j = 0 then (nn : Int) else (j : Int))])]) (fun j => (gOf l x).length - j) 0 40 rfl (Nat.zero_le _) ?_ (fun j hj => ?_)
            · conv => whnf
              refine ⟨?_, ?_, rfl⟩ <;> repeat' (first | exact trivial | exact ⟨rfl, entTs_refl _⟩ | exact entV_refl _ | exact entTs_refl _ | exact entL_refl _ | exact ⟨rfl, rfl⟩ | exact us_ent2 (entLL_refl _) | exact (fun _ _ _ _ h => h) | rfl | apply And.intro)
              all_goals simp
            · conv => whnf
              refine And.intro (fun h2 => ?_) (fun h2 => ?_)
              · have h2 : j < (gOf l x).length := by simp at h2; omega
                conv => whnf
                refine ⟨by omega, ?_⟩
                conv => whnf
                rw [Int.toNat_natCast]
                generalize hr : (gOf l x).getD j default = r
                by_cases hj0 : j = 0
                · subst hj0
                  rw [if_pos rfl, if_pos rfl]
                  refine yieldx_round tab_ok 9 rfl rfl (fun vs2 => ?_)
                  conv => whnf
                  refine ⟨rfl, ?_⟩
                  conv => whnf
                  refine And.intro (fun _ => ?_) (fun h => absurd h (by simp; omega))
                  conv => whnf
                  refine callx_m (of20_fn l x hlg.1) [3] (by kernel_rfl) ?_ ?_ ?_
                  · repeat' (first | exact trivial | exact entV_refl _ | exact ⟨rfl, rfl⟩ | rfl | apply And.intro)
                  · exact ⟨⟨rfl, entL_refl _⟩, trivial⟩
                  conv => whnf
                  refine drawx_pure tab_ok (by kernel_rfl) (by kernel_rfl) ?_
                  conv => whnf
                  refine And.intro (fun h => absurd h (by first | (simp; done) | (simp; omega))) (fun _ => ?_)
                  conv => whnf
                  refine And.intro (fun h => absurd h (by first | (simp; done) | (simp; omega))) (fun _ => ?_)
                  conv => whnf
                  refine ⟨by omega, ?_⟩
                  conv => whnf
                  rw [show (gOf l x).getD (Int.toNat 0) default = r from hr]
                  refine And.intro (fun h => absurd h (by simp)) (fun _ => ?_)
                  conv => whnf
                  refine ⟨rfl, ?_⟩
                  conv => whnf
                  refine ⟨rfl, ?_⟩
                  conv => whnf
                  refine ⟨1, by omega, by omega, rfl, ?_⟩
                  conv => whnf
                  refine ⟨?_, ?_, rfl⟩ <;> repeat' (first | exact trivial | exact ⟨rfl, entTs_refl _⟩ | exact entV_refl _ | exact entTs_refl _ | exact entL_refl _ | exact ⟨rfl, rfl⟩ | exact wrap_succ (by omega) | exact (fun _ _ _ _ h => h) | rfl | apply And.intro)
                  refine congrArg (fun f => XV.c (XC.fn 42 1 f)) (funext fun j => ?_)
                  cases j <;> rfl
                · rw [if_neg hj0, if_neg hj0]
                  refine yieldx_round tab_ok 9 rfl rfl (fun vs2 => ?_)
                  conv => whnf
                  refine ⟨rfl, ?_⟩
                  conv => whnf
                  refine And.intro (fun h => absurd h (by simp)) (fun _ => ?_)
                  conv => whnf
                  refine callx_m (of20_fn l x hlg.1) [3] (by kernel_rfl) ?_ ?_ ?_
                  · repeat' (first | exact trivial | exact entV_refl _ | exact ⟨rfl, rfl⟩ | rfl | apply And.intro)
                  · exact ⟨⟨rfl, entL_refl _⟩, trivial⟩
                  conv => whnf
                  refine drawx_pure tab_ok (by kernel_rfl) (by kernel_rfl) ?_
                  conv => whnf
                  refine And.intro (fun h => absurd h (by first | (simp; done) | (simp; omega))) (fun _ => ?_)
                  conv => whnf
                  refine And.intro (fun h => absurd h (by first | (simp; done) | (simp; omega))) (fun _ => ?_)
                  conv => whnf
                  refine ⟨by omega, ?_⟩
                  conv => whnf
                  rw [Int.toNat_natCast, hr]
                  refine And.intro (fun h => absurd h (by simp)) (fun _ => ?_)
                  conv => whnf
                  refine ⟨rfl, ?_⟩
                  conv => whnf
                  refine ⟨rfl, ?_⟩
                  conv => whnf
                  refine ⟨j + 1, by omega, by omega, rfl, ?_⟩
                  conv => whnf
                  refine ⟨?_, ?_, rfl⟩ <;> repeat' (first | exact trivial | exact ⟨rfl, entTs_refl _⟩ | exact entV_refl _ | exact entTs_refl _ | exact entL_refl _ | exact ⟨rfl, rfl⟩ | exact wrap_succ (by omega) | exact (fun _ _ _ _ h => h) | rfl | apply And.intro)
                  refine congrArg (fun f => XV.c (XC.fn 42 1 f)) (funext fun j => ?_)
                  cases j <;> rfl
              · have h2 : j = (gOf l x).length := by simp at h2; omega
                subst h2
                have hgp : (gOf l x).length ≠ 0 := fun e => hne (List.length_eq_zero_iff.1 e)
                rw [if_neg hgp, if_neg hgp]
                conv => whnf
                refine ⟨(i + 1, (gOf l x).length), ⟨by dsimp only; omega, by dsimp only; omega⟩, by dsimp only; omega, rfl, ?_⟩
                rw [hlast2]
                conv => whnf
                refine ⟨?_, ?_, rfl⟩ <;> repeat' (first | exact trivial | exact ⟨rfl, entTs_refl _⟩ | exact entV_refl _ | exact entTs_refl _ | exact entL_refl _ | exact ⟨rfl, rfl⟩ | exact wrap_succ (by omega) | exact (fun _ _ _ _ h => h) | rfl | apply And.intro)
          · have h1 : i = ks.length := by simp at h1; omega
            subst h1
            conv => whnf
            refine ⟨rfl, _, _, rfl, by decide, ?_⟩
            conv => whnf
            refine callx_inline tab_ok Try.func19 (by kernel_rfl) (by kernel_rfl) (fun us => ?_)
            conv => whnf
            refine ⟨rfl, ?_⟩
            conv => whnf
            refine rangex_in tab_ok rfl rfl Try.func42 (by kernel_rfl) (by kernel_rfl) (fun ln us => ?_)
            conv => whnf
            refine callx_inline tab_ok Try.func41 (by kernel_rfl) (by kernel_rfl) (fun us2 => ?_)
            conv => whnf
            refine opx_nemap tab_ok rfl rfl rfl rfl rfl ?_
            conv => whnf
            refine ⟨rfl, ?_⟩
            conv => whnf
            refine callx_inline tab_ok Try.func44 (by kernel_rfl) (by kernel_rfl) (fun us3 => ?_)
            conv => whnf
            refine ⟨rfl, ?_⟩
            conv => whnf
            refine callx_spl ⟨_, Try.func43, by kernel_rfl, by kernel_rfl⟩ (openOut (it := 2) rfl) ?_
            intro dom vv hd
            conv => whnf
            have hdl := dom_len hd
            refine callx_m (keysLog_m (va := false) (vz := 1) (val := fun q => [.v (vv q)]) (dom := dom) (by have := hl.1; omega) (fun q hq => ?_) [.ow 0] 71) [2, 23] (by kernel_rfl) ⟨ent_fnU rfl, trivial⟩ ?_ ?_
            · have h1 := hd.2.1 q hq
              match q, h1, hq with
              | [x], _, hq =>
                obtain ⟨p, hp, e⟩ := List.mem_map.1 (gOf_ne.1 ((hd.1 x).1 hq))
                show (Lit.int .i64 x).wf = true
                rw [← e]; exact hl.2 p hp
            · repeat' (first | exact trivial | exact ⟨rfl, rfl⟩ | exact entL_refl _ | exact (fun _ _ _ _ h => h) | rfl | apply And.intro)
            conv => whnf
            have hks := dom_ks hd
            have hkl : (sortL (dom.map fun q => q.headD 0)).length ≤ 1000 := by
              have := hl.1
              rw [sortL, List.length_mergeSort, List.length_map]; omega
            generalize sortL (dom.map fun q => q.headD 0) = ks at *
            refine loopx_spl (closeNone (it := 2) (g := gOf l) 24 (gOf l) rfl rfl rfl (fun _ _ => rfl) (fun _ h => h) (fun _ _ => rfl) hd) ?_
            conv => whnf
            refine loopx_gh (.frz 25) ?_
            conv => whnf
            refine loopi_h tab_ok (fun i => i ≤ ks.length) (fun i => [(0, .c (.v (.func (.yield ln) #[] #[]))), (1, .c (.p 18 0)), (15, .c (intsX ks)), (16, .c (.i .i64 ks.length)), (17, .c (.i .i64 i))]) (fun i => [(16, .cells 3 [.i .i64 (sumK (gOf l) ks i : Nat)])]) (fun i => ks.length - i) 0 40 rfl (Nat.zero_le _) ?_ (fun i hi => ?_)
            · conv => whnf
              refine ⟨?_, ?_, rfl⟩ <;> repeat' (first | exact trivial | exact ⟨rfl, entTs_refl _⟩ | exact entV_refl _ | exact entTs_refl _ | exact entL_refl _ | exact ⟨rfl, rfl⟩ | exact ints_entU (entLL_refl _) | exact (fun _ _ _ _ h => h) | rfl | apply And.intro)
              all_goals simp
            · conv => whnf
              refine And.intro (fun h1 => ?_) (fun h1 => ?_)
              · have h1 : i < ks.length := by simp at h1; omega
                have hxm := mem_atU 0 h1
                have hstep := sumK_snoc (g := gOf l) h1
                conv => whnf
                refine ⟨by omega, ?_⟩
                conv => whnf
                rw [Int.toNat_natCast]
                generalize ks.getD i 0 = x at *
                have hne := (hks.mem x).1 hxm
                have hgl := gOf_len l x
                have hl1 := hl.1
                refine opx_spl (fun c e => Op.noConfusion e) (openIn (it := 2) x rfl hne) ?_
                intro dom2 vv2 hd2 hkd2
                conv => whnf
                refine opx_valr (fun c e => Op.noConfusion e) (valr_look tab_ok (q := x) (u := vv2 [x]) (hd := 28) rfl rfl rfl rfl rfl rfl rfl hkd2) ?_
                conv => whnf
                refine callx_of_callf (callf_row (cloneU_own (gOf l x) (by omega)) ⟨us_ent2 (entLL_refl _), trivial⟩ rfl encU_len encU_flat ?_)
                conv => whnf
                refine loopx_spl (closeRow (it := 2) (g := gOf l) 26 27 28 x (gOf l) rfl rfl rfl rfl rfl (fun q _ => ?_) (fun q hq hne => List.mem_filter.2 ⟨hq, by simpa using hne⟩) rfl (fun _ _ => rfl) hd2) ?_
                · by_cases e : q = [x]
                  · rw [if_pos e, e]
                  · rw [if_neg e]
                conv => whnf
                refine loopx_gh (.frz 29) ?_
                conv => whnf
                refine loopi_h tab_ok (fun j => j ≤ (gOf l x).length) (fun j => [(0, .c (.v (.func (.yield ln) #[] #[]))), (1, .c (.p 18 0)), (4, .c (.i .i64 x)), (15, .c (intsX ks)), (16, .c (.i .i64 ks.length)), (17, .c (.i .i64 i)), (27, .c (usX (gOf l x))), (28, .c (.i .i64 (gOf l x).length)), (29, .c (.i .i64 j))]) (fun j => [(16, .cells 3 [.i .i64 (sumK (gOf l) ks i + j : Nat)])]) (fun j => (gOf l x).length - j) 0 40 rfl (Nat.zero_le _) ?_ (fun j hj => ?_)
                · conv => whnf
                  refine ⟨?_, ?_, rfl⟩ <;> repeat' (first | exact trivial | exact ⟨rfl, entTs_refl _⟩ | exact entV_refl _ | exact entTs_refl _ | exact entL_refl _ | exact ⟨rfl, rfl⟩ | exact us_ent2 (entLL_refl _) | exact (fun _ _ _ _ h => h) | rfl | apply And.intro)
                  all_goals simp
                · conv => whnf
                  refine And.intro (fun h2 => ?_) (fun h2 => ?_)
                  · have h2 : j < (gOf l x).length := by simp at h2; omega
                    conv => whnf
                    refine ⟨by omega, ?_⟩
                    conv => whnf
                    rw [Int.toNat_natCast]
                    generalize (gOf l x).getD j default = r
                    refine yieldx_round tab_ok 19 rfl rfl (fun vs2 => ?_)
                    conv => whnf
                    refine ⟨rfl, ?_⟩
                    conv => whnf
                    refine ⟨rfl, ?_⟩
                    conv => whnf
                    refine ⟨rfl, ?_⟩
                    conv => whnf
                    refine ⟨j + 1, by omega, by omega, rfl, ?_⟩
                    conv => whnf
                    refine ⟨?_, ?_, rfl⟩ <;> repeat' (first | exact trivial | exact ⟨rfl, entTs_refl _⟩ | exact entV_refl _ | exact entTs_refl _ | exact entL_refl _ | exact ⟨rfl, rfl⟩ | exact wrap_succ (by omega) | exact (fun _ _ _ _ h => h) | rfl | apply And.intro)
                    exact wrap_succ (by have := sumK_le hks (i + 1); have := hlg.1; omega)
                  · have h2 : j = (gOf l x).length := by simp at h2; omega
                    subst h2
                    conv => whnf
                    refine ⟨i + 1, by omega, by omega, rfl, ?_⟩
                    rw [hstep]
                    conv => whnf
                    refine ⟨?_, ?_, rfl⟩ <;> repeat' (first | exact trivial | exact ⟨rfl, entTs_refl _⟩ | exact entV_refl _ | exact entTs_refl _ | exact entL_refl _ | exact ⟨rfl, rfl⟩ | exact wrap_succ (by omega) | exact (fun _ _ _ _ h => h) | rfl | apply And.intro)
              · have h1 : i = ks.length := by simp at h1; omega
                subst h1
                conv => whnf
                refine ⟨rfl, _, _, rfl, by decide, ?_⟩
                conv => whnf
                refine drawx_plan tab_ok [0] (.take 0 (.take 1 (.take 2 (.take 3 (.take 4 (.take 5 (.take 6 (.one 7 .done)))))))) (by kernel_rfl) (by kernel_rfl) (by kernel_rfl) ?_
                conv => whnf
                rw [sumK_all hks]
                simp
def ddsOf (n : Nat) (f : Nat → Nat → Int) : List Dd := (List.range n).map fun i => ⟨f i 0, f i 1, ⟨f i 2, f i 3, f i 4, f i 5, f i 6, f i 7⟩⟩
theorem dds_of {n : Nat} {f : Nat → Nat → Int} : entV (.c (.rs n 8 fun i j => .i .i64 (f i j))) (.c (ddsX (ddsOf n f))) := by
  refine ⟨by simp [ddsOf], rfl, fun i hi j hj => ?_⟩
  have hi : i < n := by simpa [ddsOf] using hi
  have e : (ddsOf n f).getD i default = ⟨f i 0, f i 1, ⟨f i 2, f i 3, f i 4, f i 5, f i 6, f i 7⟩⟩ := by simp [ddsOf, List.getD, hi]
  show entC _ (nthC (encDd ((ddsOf n f).getD i default)) j)
  rw [e]
  match j, hj with
  | 0, _ => exact ⟨rfl, rfl⟩
  | 1, _ => exact ⟨rfl, rfl⟩
  | 2, _ => exact ⟨rfl, rfl⟩
  | 3, _ => exact ⟨rfl, rfl⟩
  | 4, _ => exact ⟨rfl, rfl⟩
  | 5, _ => exact ⟨rfl, rfl⟩
  | 6, _ => exact ⟨rfl, rfl⟩
  | 7, _ => exact ⟨rfl, rfl⟩
theorem dds_wf {n : Nat} {f : Nat → Nat → Int} (w0 : ∀ i, i < n → ∀ j, j < 8 → (Lit.int .i64 (f i j)).wf = true) : ∀ d ∈ ddsOf n f, (Lit.int .i64 d.tx).wf = true := by
  intro d hd
  obtain ⟨i, hi, rfl⟩ := List.mem_map.1 hd
  exact w0 i (List.mem_range.1 hi) 1 (by omega)
theorem undo_row (l0 : Nat) (h0 : Nat → Nat → Int) (_ : l0 ≤ maxLen) (w0 : ∀ i, i < l0 → ∀ j, j < 8 → (Lit.int .i64 (h0 i j)).wf = true) :
    Eng.Fn Try.prog 3 [.c (.rs l0 8 fun i j => .i .i64 (h0 i j))] (Tells (.c (.b true))) :=
  (undo_fn (ddsOf l0 h0) (dds_wf w0)).ask ⟨dds_of, trivial⟩
end Go.Proofs.Ytehbalkhboedeaa
