/- The store: its rows. -/
import Derived.Test.YtehbalkhboedeaaStore2
import Derived.Test.YtehbalkhboedeaaEngRm
import Derived.Test.YtehbalkhboedeaaEngSf
import Derived.Shelf.Lay
import Derived.Ground.SlsfProg
namespace Go.Proofs
open Go.Shelf
shelf_lay_g SlLaysF0.n6 Slsf 6 at Try 67 as Try.sortRw
end Go.Proofs
namespace Go.Proofs.Ytehbalkhboedeaa
open Go Go.Eng Go.RowKit Go.Sort Go.Shelf
set_option maxRecDepth 100000
set_option maxHeartbeats 8000000
set_option linter.unusedVariables false
set_option linter.unusedSimpArgs false
/-- A path that may be. -/
abbrev MP := { p : Pth // MayQ p }
theorem may0 : MayQ ⟨0, 0, 0, 0, 1⟩ := by decide
instance : Inhabited MP := ⟨⟨⟨0, 0, 0, 0, 1⟩, may0⟩⟩
abbrev kM (m : MP) : List Int := kP m.1
theorem kM_inj {m m' : MP} (h : kM m = kM m') : m = m' := by
  obtain ⟨⟨a, b, c, d, n⟩, h1⟩ := m
  obtain ⟨⟨a2, b2, c2, d2, n2⟩, h2⟩ := m'
  simp only [kM, kP, List.cons.injEq, and_true] at h
  obtain ⟨rfl, rfl, rfl, rfl, rfl⟩ := h
  rfl
def cfM (x y : MP) : Int := if lessP x.1 y.1 = true then -1 else 1
theorem ltM (x y : MP) : ltOf cfM x y = decide (keyP x.1 < keyP y.1) := by
  unfold ltOf cfM
  rw [less_key x.2 y.2]
  by_cases h : keyP x.1 < keyP y.1 <;> simp [h]
theorem ltM_swo : SWO (ltOf cfM) where
  irrefl x := by simp [ltM]
  trans x y z h1 h2 := by simp [ltM] at *; omega
  ntrans x y z h1 h2 := by simp [ltM] at *; omega
theorem ltM_tot (x y : MP) (h1 : ltOf cfM x y = false) (h2 : ltOf cfM y x = false) : x = y := by
  simp [ltM] at h1 h2
  exact Subtype.ext (key_inj x.2 y.2 (by omega))
def srtM (l : List MP) : List MP := l.mergeSort fun x y => !(ltOf cfM) y x
theorem srtM_perm {l l' : List MP} (h : l.Perm l') : srtM l = srtM l' := by
  have tr : ∀ (a b c : MP), (!ltOf cfM b a) = true → (!ltOf cfM c b) = true → (!ltOf cfM c a) = true := by
    intro a b c h1 h2
    simp [ltM] at *; omega
  have to : ∀ (a b : MP), ((!ltOf cfM b a) || (!ltOf cfM a b)) = true := by
    intro a b
    simp [ltM]; omega
  refine List.Perm.eq_of_pairwise (le := fun x y => (!ltOf cfM y x) = true) ?_ (List.pairwise_mergeSort tr to _) (List.pairwise_mergeSort tr to _) (((List.mergeSort_perm _ _).trans h).trans (List.mergeSort_perm _ _).symm)
  intro a b _ _ h1 h2
  exact ltM_tot a b (by simpa using h2) (by simpa using h1)
/-- The rows of some paths. -/
def rwM (f : List Int → Int × Int) (m : MP) : Rw := ⟨m.1, (f (kM m)).1⟩
def nzM (f : List Int → Int × Int) (m : MP) : Bool := (f (kM m)).1 != 0
def rowsM (ds : List MP) (f : List Int → Int × Int) : List Rw := (srtM (ds.filter (nzM f))).map (rwM f)
theorem encR_det (r : Rw) : ∀ c ∈ encR r, detC c = true := by
  intro c hc
  simp only [encR, List.mem_cons, List.not_mem_nil, or_false] at hc
  rcases hc with rfl | rfl | rfl | rfl | rfl | rfl <;> rfl
theorem aggRw (w : World) : (isAgg 34).run Try.prog w = .ok true w := run_isAggT (TIs.of (tab_ok _ _ (show tabGet tab 34 = _ from rfl))) w
theorem sizeRw (w : World) : (Go.sizeOf 34).run Try.prog w = .ok 6 w := run_size (TIs.of (tab_ok _ _ (show tabGet tab 34 = _ from rfl))) w
theorem sortRw_fn (f : List Int → Int × Int) (l : List MP) (hl : l.length < 4611686018427387904) (fx : List XC) : FnM Try.prog 67 [.c (.ow 0), .c (.v (.func (.func 68) #[] #[]))] [.row 34 6 (l.map fun m => encR (rwM f m))] fx (.t []) [.row 34 6 ((srtM l).map fun m => encR (rwM f m))] :=
  sortFunc_fn Try.sortRw (enc := fun m => encR (rwM f m)) rfl 68 ⟨_, Try.func67, by kernel_rfl, by kernel_rfl⟩ (fun _ => rfl) (fun m => encR_det _) aggRw sizeRw (enters_of Try.func68 (by kernel_rfl) rfl) cfM ltM_swo ltM_tot (fun x y => rowCmp_fn (rwM f x) (rwM f y)) l hl fx
theorem erase_map : ∀ (l : List MP) (m : MP), (l.map kM).erase (kM m) = (l.erase m).map kM
  | [], _ => rfl
  | x :: l, m => by
    by_cases h : x = m
    · subst h; simp
    · have h' : kM x ≠ kM m := fun e => h (kM_inj e)
      rw [List.map_cons, List.erase_cons_tail (by simpa using h'), List.erase_cons_tail (by simpa using fun e => h (Subtype.ext e)), List.map_cons, erase_map l m]
theorem rows_fn (ds : List MP) (f : List Int → Int × Int) (hn : ds.length ≤ 1000000) :
    FnM Try.prog 48 [.c (.p 0 0), .c (.v (.func (.func 46) #[] #[]))] [storI, storA (ds.map kM) f] [.p 0 0] (.c (rowX encR default 6 (rowsM ds f))) [storI, storA (ds.map kM) f] := by
  refine FnM.of tab_ok Try.func48 (by kernel_rfl) (by kernel_rfl) (fun vs => ?_)
  conv => whnf
  refine callx_inline tab_ok Try.func45 (by kernel_rfl) (by kernel_rfl) (fun us => ?_)
  conv => whnf
  refine opx_nemapA tab_ok rfl rfl rfl rfl rfl ?_
  conv => whnf
  refine ⟨rfl, ?_⟩
  conv => whnf
  refine opx_range tab_ok rfl rfl rfl rfl (fun b bl ck hbl hnd hbn => ?_)
  conv => whnf
  have hnds : ds.Nodup := (List.pairwise_map.1 hnd).imp fun {a b} h e => h (by rw [e])
  refine loopx_nil 5 34 6 rfl ?_
  conv => whnf
  refine loopi tab_ok (fun (i : List MP × List MP × Option (List Int)) => i.1.Nodup ∧ (∀ m ∈ i.1, m ∈ ds) ∧ (i.2.1 ++ i.1.filter (nzM f)).Perm (ds.filter (nzM f)))
    (fun i => [(0, .c (.p 0 0)), (1, .c (.v (.func (.func 46) #[] #[]))), (5, .c (.ow 5)), (16, .c (.ow 4))])
    (fun i => [storI, .abs (MapE true ks5 true 2 (ds.map kM) (fun p => [.i .i64 (f p).1, .i .i64 (f p).2]) b bl ck), .held vs (cLs [.p 0 0]), .dead, .abs (IterA (ds.map kM) b bl ck (i.1.map kM) i.2.2), .row 34 6 (i.2.1.map fun m => encR (rwM f m))])
    (fun i => i.1.length) (ds, [], none) 40 rfl ⟨hnds, fun m h => h, by rw [List.nil_append]⟩ ?_ (fun i hi => ?_)
  · refine ⟨?_, ?_, rfl⟩ <;> repeat' (first | exact trivial | exact entV_refl _ | exact entLL_refl _ | exact ⟨rfl, entTs_refl _⟩ | exact ⟨rfl, entL_refl _⟩ | exact ⟨rfl, rfl⟩ | exact (fun _ _ _ _ h => h) | rfl | apply And.intro)
    all_goals trace_state
  · obtain ⟨tp, out, cur⟩ := i
    obtain ⟨h1, h2, h3⟩ := hi
    dsimp only at h1 h2 h3
    conv => whnf
    refine opx_next (it := 1) (j := 4) rfl (by decide) rfl rfl (fun h => ?_) (fun q hq hqd hql => ?_)
    · have h : tp = [] := List.map_eq_nil_iff.1 h
      subst h
      have h3 : out.Perm (ds.filter (nzM f)) := by simpa using h3
      have hol : out.length ≤ 1000000 := by
        have := h3.length_eq
        have := List.length_filter_le (nzM f) ds
        omega
      conv => whnf
      refine callx_m (sortRw_fn f out (by omega) [.ow 0]) [5] (by kernel_rfl) ⟨entV_refl _, entV_refl _, trivial⟩ ⟨⟨⟨rfl, rfl⟩, entLL_refl _⟩, trivial⟩ ?_
      conv => whnf
      refine mt_gh (.frz 5) (v := .c (rowX encR default 6 (rowsM ds f))) (hs' := [storI, storA (ds.map kM) f]) (fx := [.p 0 0]) (x := .c (.ow 5)) ?_
      conv => whnf
      refine mt_done (v := .c (rowX encR default 6 (rowsM ds f))) (hs' := [storI, storA (ds.map kM) f]) (fx := [.p 0 0]) (ys := [.c (.p 0 0)]) [0, 1] 2 rfl rfl rfl rfl rfl ?_ ⟨entV_refl _, trivial⟩ ⟨⟨rfl, entL_refl _⟩, fun _ _ _ _ h => MapE.toA h, trivial⟩
      rw [srtM_perm h3]
      exact row_ent (by unfold rowsM; rw [List.map_map]; rfl)
    · obtain ⟨m, hm, rfl⟩ := List.mem_map.1 hq
      have hm : m ∈ tp := hm
      have hmp : MayP m.1.a m.1.b m.1.c m.1.d m.1.n := m.2
      have hpe : (m :: tp.erase m).Perm tp := (List.perm_cons_erase hm).symm
      have hle : (tp.erase m).length < tp.length := by
        have := hpe.length_eq
        simp at this ⊢; omega
      have hsub : ∀ x ∈ tp.erase m, x ∈ ds := fun x hx => h2 x (List.mem_of_mem_erase hx)
      conv => whnf
      refine opx_entry (it := 1) rfl rfl rfl ?_
      conv => whnf
      rw [erase_map]
      refine And.intro (fun h => ?_) (fun h => ?_)
      · conv => whnf
        refine callx_tells (pathMay_fn m.1.a m.1.b m.1.c m.1.d m.1.n) rfl trivial ?_
        conv => whnf
        refine And.intro (fun h4 => ?_) (fun h4 => absurd hmp (by simpa using h4))
        have hol : out.length + 1 ≤ 1000000 + 1 := by
          have := h3.length_eq
          have := List.length_filter_le (nzM f) ds
          simp only [List.length_append] at *
          omega
        conv => whnf
        refine ⟨?_, ?_⟩
        · simp only [List.length_map, List.length_cons, List.length_nil]; omega
        conv => whnf
        refine ⟨(tp.erase m, out ++ [m], some (kM m)), ⟨h1.erase m, hsub, ?_⟩, hle, rfl, ?_⟩
        · have e1 : ((m :: tp.erase m).filter (nzM f)).Perm (tp.filter (nzM f)) := hpe.filter _
          rw [List.filter_cons_of_pos (show nzM f m = true from h)] at e1
          refine List.Perm.trans ?_ h3
          rw [List.append_assoc]
          exact List.Perm.append_left out e1
        refine ⟨?_, ?_, rfl⟩ <;> repeat' (first | exact trivial | exact entV_refl _ | exact entLL_refl _ | exact ⟨rfl, entTs_refl _⟩ | exact ⟨rfl, entL_refl _⟩ | exact ⟨rfl, rfl⟩ | exact (fun _ _ _ _ h => h) | exact entLL_of_eq (by rw [List.map_append]; rfl) | rfl | apply And.intro)
        all_goals trace_state
      · conv => whnf
        refine ⟨(tp.erase m, out, some (kM m)), ⟨h1.erase m, hsub, ?_⟩, hle, rfl, ?_⟩
        · have e1 : ((m :: tp.erase m).filter (nzM f)).Perm (tp.filter (nzM f)) := hpe.filter _
          rw [List.filter_cons_of_neg (by intro e; rw [show ((f (kM m)).1 != 0) = nzM f m from rfl, e] at h; cases h)] at e1
          exact (List.Perm.append_left out e1).trans h3
        refine ⟨?_, ?_, rfl⟩ <;> repeat' (first | exact trivial | exact entV_refl _ | exact entLL_refl _ | exact ⟨rfl, entTs_refl _⟩ | exact ⟨rfl, entL_refl _⟩ | exact ⟨rfl, rfl⟩ | exact (fun _ _ _ _ h => h) | rfl | apply And.intro)
        all_goals trace_state
theorem srows_fn (ds : List MP) (f : List Int → Int × Int) (hn : ds.length ≤ 1000000) :
    FnM Try.prog 22 [.c (.p 0 0)] [storI, storA (ds.map kM) f] [.p 0 0] (.c (rowX encR default 6 (rowsM ds f))) [storI, storA (ds.map kM) f] := by
  refine FnM.of tab_ok Try.func22 (by kernel_rfl) (by kernel_rfl) (fun vs => ?_)
  conv => whnf
  refine callx_m (rows_fn ds f hn) [0, 1] (by kernel_rfl) ⟨entV_refl _, entV_refl _, trivial⟩ ⟨⟨rfl, entL_refl _⟩, fun _ _ _ _ h => h, trivial⟩ ?_
  conv => whnf
  exact mt_done (v := .c (rowX encR default 6 (rowsM ds f))) (hs' := [storI, storA (ds.map kM) f]) (fx := [.p 0 0]) (ys := [.c (.p 0 0)]) [0, 1] 2 rfl rfl rfl rfl rfl (entV_refl _) ⟨entV_refl _, trivial⟩ ⟨⟨rfl, entL_refl _⟩, fun _ _ _ _ h => h, trivial⟩
theorem rwEq (x y : Eng.Rw) : (x.p.a == y.p.a && (x.p.b == y.p.b && (x.p.c == y.p.c && (x.p.d == y.p.d && (x.p.n == y.p.n && x.v == y.v))))) = decide (x = y) := by
  rw [Bool.eq_iff_iff]; simp [Rw.eq_iff, Pth.eq_iff, and_assoc]
theorem sameRows_fn (a b : List Eng.Rw) (hal : a.length ≤ 1000000) : Eng.Fn Try.prog 24 [.c (rowX encR default 6 a), .c (rowX encR default 6 b)] (Tells (.c (.b (decide (a = b))))) := by
  refine Eng.Fn.ofZ tab_ok Try.func24 (by kernel_rfl) (by kernel_rfl) trivial (fun w0 => ?_)
  conv => whnf
  refine And.intro (fun h1 => ?_) (fun h1 => ?_)
  · have h1 : a.length ≠ b.length := by simp at h1; omega
    conv => whnf
    exact decide_eq_false fun e => h1 (by rw [e])
  · have h1 : a.length = b.length := by simp at h1; omega
    conv => whnf
    refine loopi tab_ok (fun k => k ≤ a.length ∧ ∀ i, i < k → a.getD i default = b.getD i default) (fun k => [(0, .c (rowX encR default 6 a)), (1, .c (rowX encR default 6 b)), (4, .c .bf), (12, .c (.i .i64 a.length)), (13, .c (.i .i64 k))]) (fun k => []) (fun k => a.length - k) 0 26 rfl ⟨Nat.zero_le _, fun i hi => absurd hi (by omega)⟩ ?_ (fun k hk => ?_)
    · refine ⟨?_, ?_, rfl⟩ <;> repeat' (first | exact trivial | exact entV_refl _ | exact ⟨rfl, rfl⟩ | rfl | apply And.intro)
    · obtain ⟨hk1, hk2⟩ := hk
      conv => whnf
      refine And.intro (fun h2 => ?_) (fun h2 => ?_)
      · have h2 : k < a.length := by simpa using h2
        conv => whnf
        refine drawx_plan tab_ok [] (.take 0 (.take 1 (.take 2 (.take 3 (.take 4 (.take 5 (.take 6 (.take 7 (.take 8 .done))))))))) (by kernel_rfl) (by kernel_rfl) (by kernel_rfl) ?_
        conv => whnf
        refine ⟨by omega, ?_⟩
        conv => whnf
        refine ⟨by omega, ?_⟩
        conv => whnf
        rw [Int.toNat_natCast]
        generalize ha : a.getD k default = x
        generalize hb : b.getD k default = y
        conv => whnf
        rw [rwEq]
        refine And.intro (fun h3 => ?_) (fun h3 => ?_)
        · have h3 : x ≠ y := by simpa using h3
          conv => whnf
          exact decide_eq_false fun e => h3 (by rw [← ha, ← hb, e])
        · have h3 : x = y := by simpa using h3
          conv => whnf
          refine ⟨k + 1, ⟨by omega, fun i hi => ?_⟩, by omega, rfl, ?_⟩
          · rcases Nat.lt_or_ge i k with h4 | h4
            · exact hk2 i h4
            · obtain rfl : i = k := by omega
              rw [ha, hb, h3]
          refine ⟨?_, ?_, rfl⟩ <;> repeat' (first | exact trivial | exact entV_refl _ | exact ⟨rfl, rfl⟩ | exact wrap_succ (by omega) | rfl | apply And.intro)
          all_goals trace_state
      · have h2 : k = a.length := by simp at h2; omega
        subst h2
        conv => whnf
        exact decide_eq_true (List.ext_getElem h1 fun i h3 h4 => by
          have := hk2 i h3
          rw [List.getD_eq_getElem?_getD, List.getD_eq_getElem?_getD, List.getElem?_eq_getElem h3, List.getElem?_eq_getElem h4] at this
          exact this)
end Go.Proofs.Ytehbalkhboedeaa
