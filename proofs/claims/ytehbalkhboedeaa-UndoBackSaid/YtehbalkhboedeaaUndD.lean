/- What one sets and notes is taken back: the law. -/
import Derived.Test.YtehbalkhboedeaaUndC
namespace Go.Proofs.Ytehbalkhboedeaa
open Go Go.Eng Go.RowKit
set_option maxRecDepth 100000
set_option maxHeartbeats 8000000
set_option linter.unusedVariables false
set_option linter.unusedSimpArgs false
theorem sto0_ok : Sto.Ok ⟨[], fun _ => (0, 0)⟩ := ⟨List.nodup_nil, fun _ _ => rfl, fun _ => ⟨Int.le_refl _, (by decide : (0 : Int) ≤ 1073741824)⟩⟩
abbrev rwX (l : List Eng.Rw) : XC := rowX encR default 6 l
theorem back_fn (first l : List Eng.Rw) (tx : Int) (hw : (Lit.int .i64 tx).wf = true) : Eng.Fn Try.prog 4 [.c (rwX first), .c (rwX l), .c (.i .i64 tx)] (Tells (.c (.b true))) := by
  refine Eng.Fn.ofZ tab_ok Try.func4 (by kernel_rfl) (by kernel_rfl) trivial (fun w0 => ?_)
  conv => whnf
  refine callx_tells awake21_fn rfl trivial ?_
  conv => whnf
  refine And.intro (fun h => absurd h (by decide)) (fun _ => ?_)
  conv => whnf
  refine And.intro (fun h1 => ?_) (fun h1 => ?_)
  · conv => whnf
  conv => whnf
  refine And.intro (fun h2 => ?_) (fun h2 => ?_)
  · conv => whnf
  conv => whnf
  refine And.intro (fun h3 => ?_) (fun h3 => ?_)
  · conv => whnf
  have h1 : first.length ≤ 40 := by simp at h1; omega
  have h2 : l.length ≤ 40 := by simp at h2; omega
  have h3 : 1 ≤ tx := by simp at h3; omega
  conv => whnf
  refine callx_m snew_fn [] (by kernel_rfl) trivial trivial ?_
  conv => whnf
  refine callx_m new_fn [] (by kernel_rfl) trivial trivial ?_
  conv => whnf
  refine loopi_h tab_ok (fun (i : Nat × Sto) => i.1 ≤ first.length ∧ i.2.Ok ∧ i.2.ds.length ≤ i.1) (fun i => [(0, .c (rwX first)), (1, .c (rwX l)), (2, .c (.i .i64 tx)), (7, .c (.p 0 0)), (8, .c (.p 2 0)), (40, .c (rwX first)), (41, .c (.i .i64 first.length)), (42, .c (.i .i64 i.1))]) (fun i => [(1, storS i.2)]) (fun i => first.length - i.1) (0, ⟨[], fun _ => (0, 0)⟩) 140 rfl ⟨Nat.zero_le _, sto0_ok, Nat.le_refl _⟩ ?_ (fun i hi => ?_)
  · conv => whnf
    refine ⟨?_, ?_, rfl⟩ <;> repeat' (first | exact trivial | exact ⟨rfl, entTs_refl _⟩ | exact entV_refl _ | exact entTs_refl _ | exact entL_refl _ | exact ⟨rfl, rfl⟩ | exact (fun _ _ _ _ h => h) | rfl | apply And.intro)
  · obtain ⟨k, s⟩ := i
    obtain ⟨hk, hs, hds⟩ := hi
    dsimp only at hk hs hds
    conv => whnf
    refine And.intro (fun h4 => ?_) (fun h4 => ?_)
    · have h4 : k < first.length := by simp at h4; omega
      conv => whnf
      refine ⟨by omega, ?_⟩
      conv => whnf
      rw [Int.toNat_natCast]
      generalize first.getD k default = r
      by_cases hq : SetQ r.p r.v
      · refine callx_m (set1S s hs r.p r.v hq) [0, 1] (by kernel_rfl) ?_ ?_ ?_
        · repeat' (first | exact trivial | exact entV_refl _ | exact ⟨rfl, rfl⟩ | rfl | apply And.intro)
        · exact ⟨⟨rfl, entL_refl _⟩, fun _ _ _ _ h => h, trivial⟩
        conv => whnf
        have hln := insM_len s.ds ⟨r.p, hq.1⟩
        refine ⟨(k + 1, s.set ⟨r.p, hq.1⟩ r.v), ⟨by omega, hs.set _ hq.2.2, Nat.le_trans hln (by omega)⟩, by omega, rfl, ?_⟩
        conv => whnf
        refine ⟨?_, ?_, rfl⟩ <;> repeat' (first | exact trivial | exact ⟨rfl, entTs_refl _⟩ | exact entV_refl _ | exact entTs_refl _ | exact entL_refl _ | exact ⟨rfl, rfl⟩ | exact wrap_succ (by omega) | exact (fun _ _ _ _ h => h) | rfl | apply And.intro)
      · refine callx_m (set0_fn (s.ds.map kM) s.f r.p r.v hq) [0, 1] (by kernel_rfl) ?_ ?_ ?_
        · repeat' (first | exact trivial | exact entV_refl _ | exact ⟨rfl, rfl⟩ | rfl | apply And.intro)
        · exact ⟨⟨rfl, entL_refl _⟩, fun _ _ _ _ h => h, trivial⟩
        conv => whnf
        refine ⟨(k + 1, s), ⟨by omega, hs, Nat.le_succ_of_le hds⟩, by omega, rfl, ?_⟩
        conv => whnf
        refine ⟨?_, ?_, rfl⟩ <;> repeat' (first | exact trivial | exact ⟨rfl, entTs_refl _⟩ | exact entV_refl _ | exact entTs_refl _ | exact entL_refl _ | exact ⟨rfl, rfl⟩ | exact wrap_succ (by omega) | exact (fun _ _ _ _ h => h) | rfl | apply And.intro)
    · have hk0 : k = first.length := by simp at h4; omega
      clear h4
      generalize hs1 : s = s1 at *
      conv => whnf
      refine callx_m (srows_fn s1.ds s1.f (by omega)) [0, 1] (by kernel_rfl) ?_ ?_ ?_
      · repeat' (first | exact trivial | exact entV_refl _ | exact ⟨rfl, rfl⟩ | rfl | apply And.intro)
      · exact ⟨⟨rfl, entL_refl _⟩, fun _ _ _ _ h => h, trivial⟩
      conv => whnf
      refine loopi_h tab_ok (fun (i : Nat × Sto × List Eng.Rw) => i.1 ≤ l.length ∧ i.2.1.Ok ∧ i.2.1.ds.length ≤ 40 + i.1 ∧ i.2.2.length ≤ i.1 ∧ vbk i.2.1.val i.2.2 = s1.val ∧ ∀ x ∈ i.2.2, SetQ x.p x.v)
        (fun i => [(0, .c (rwX first)), (1, .c (rwX l)), (2, .c (.i .i64 tx)), (7, .c (.p 0 0)), (8, .c (.p 2 0)), (11, .c (rwX (rowsM s1.ds s1.f))), (55, .c (rwX l)), (56, .c (.i .i64 l.length)), (57, .c (.i .i64 i.1))])
        (fun i => [(1, storS i.2.1), (3, logA (gOf (lgOf tx i.2.2)))]) (fun i => l.length - i.1) (0, s1, []) 140 rfl ⟨Nat.zero_le _, hs, (by show s1.ds.length ≤ 40 + 0; omega), Nat.le_refl _, rfl, fun x hx => by cases hx⟩ ?_ (fun i hi => ?_)
      · conv => whnf
        refine ⟨?_, ?_, rfl⟩ <;> repeat' (first | exact trivial | exact ⟨rfl, entTs_refl _⟩ | exact entV_refl _ | exact entTs_refl _ | exact entL_refl _ | exact ⟨rfl, rfl⟩ | exact wrap_succ (by omega) | exact (fun _ _ _ _ h => h) | rfl | apply And.intro)
      · obtain ⟨j, s, rs⟩ := i
        obtain ⟨hj, hso, hdl, hrl, hvb, hrs⟩ := hi
        dsimp only at hj hso hdl hrl hvb hrs
        conv => whnf
        refine And.intro (fun h4 => ?_) (fun h4 => ?_)
        · have h4 : j < l.length := by simp at h4; omega
          conv => whnf
          refine ⟨by omega, ?_⟩
          conv => whnf
          rw [Int.toNat_natCast]
          generalize l.getD j default = r
          by_cases hq : SetQ r.p r.v
          · refine callx_m (set1S s hso r.p r.v hq) [0, 1] (by kernel_rfl) ?_ ?_ ?_
            · repeat' (first | exact trivial | exact entV_refl _ | exact ⟨rfl, rfl⟩ | rfl | apply And.intro)
            · exact ⟨⟨rfl, entL_refl _⟩, fun _ _ _ _ h => h, trivial⟩
            conv => whnf
            refine And.intro (fun _ => ?_) (fun h => absurd h (by decide))
            conv => whnf
            refine callx_m (noteB_fn tx rs r.p (s.val (kP r.p)) h3 (by omega)) [2, 3] (by kernel_rfl) ?_ ?_ ?_
            · repeat' (first | exact trivial | exact entV_refl _ | exact ⟨rfl, rfl⟩ | rfl | apply And.intro)
            · exact ⟨⟨rfl, entL_refl _⟩, fun _ _ _ _ h => h, trivial⟩
            conv => whnf
            refine And.intro (fun h => absurd h (by decide)) (fun _ => ?_)
            conv => whnf
            have hln := insM_len s.ds ⟨r.p, hq.1⟩
            refine ⟨(j + 1, s.set ⟨r.p, hq.1⟩ r.v, rs ++ [⟨r.p, s.val (kP r.p)⟩]), ⟨by omega, hso.set _ hq.2.2, Nat.le_trans hln (by omega), (by simp; omega), ?_, fun x hx => ?_⟩, by omega, rfl, ?_⟩
            · rw [vbk_snoc, Sto.val_set]
              exact (congrArg (fun g => vbk g rs) (updI_back s.val (kP r.p) r.v)).trans hvb
            · rcases List.mem_append.1 hx with hx | hx
              · exact hrs x hx
              · obtain rfl : x = ⟨r.p, s.val (kP r.p)⟩ := by simpa using hx
                exact ⟨hq.1, hq.2.1, hso.bd _⟩
            conv => whnf
            refine ⟨?_, ?_, rfl⟩ <;> repeat' (first | exact trivial | exact ⟨rfl, entTs_refl _⟩ | exact entV_refl _ | exact entTs_refl _ | exact entL_refl _ | exact ⟨rfl, rfl⟩ | exact wrap_succ (by omega) | exact (fun _ _ _ _ h => h) | rfl | apply And.intro)
          · refine callx_m (set0_fn (s.ds.map kM) s.f r.p r.v hq) [0, 1] (by kernel_rfl) ?_ ?_ ?_
            · repeat' (first | exact trivial | exact entV_refl _ | exact ⟨rfl, rfl⟩ | rfl | apply And.intro)
            · exact ⟨⟨rfl, entL_refl _⟩, fun _ _ _ _ h => h, trivial⟩
            conv => whnf
            refine And.intro (fun h => absurd h (by decide)) (fun _ => ?_)
            conv => whnf
            refine ⟨(j + 1, s, rs), ⟨by omega, hso, (by show s.ds.length ≤ 40 + (j + 1); omega), (by show rs.length ≤ j + 1; omega), hvb, hrs⟩, by omega, rfl, ?_⟩
            conv => whnf
            refine ⟨?_, ?_, rfl⟩ <;> repeat' (first | exact trivial | exact ⟨rfl, entTs_refl _⟩ | exact entV_refl _ | exact entTs_refl _ | exact entL_refl _ | exact ⟨rfl, rfl⟩ | exact wrap_succ (by omega) | exact (fun _ _ _ _ h => h) | rfl | apply And.intro)
        · have hj0 : j = l.length := by simp at h4; omega
          clear h4
          conv => whnf
          refine callx_m (lenB_fn tx rs hw (by omega)) [2, 3] (by kernel_rfl) ?_ ?_ ?_
          · repeat' (first | exact trivial | exact entV_refl _ | exact ⟨rfl, rfl⟩ | rfl | apply And.intro)
          · exact ⟨⟨rfl, entL_refl _⟩, fun _ _ _ _ h => h, trivial⟩
          conv => whnf
          refine loopi_h tab_ok (fun (i : Nat × Sto × List Eng.Rw) => i.1 + i.2.2.length = rs.length ∧ i.2.1.Ok ∧ i.2.1.ds.length ≤ 80 + i.1 ∧ vbk i.2.1.val i.2.2 = s1.val ∧ ∀ x ∈ i.2.2, SetQ x.p x.v)
            (fun i => [(2, .c (.i .i64 tx)), (7, .c (.p 0 0)), (8, .c (.p 2 0)), (11, .c (rwX (rowsM s1.ds s1.f))), (85, .c (.i .i64 rs.length)), (86, .c (.i .i64 i.1))])
            (fun i => [(1, storS i.2.1), (3, logA (gOf (lgOf tx i.2.2)))]) (fun i => rs.length - i.1) (0, s, rs) 140 rfl ⟨Nat.zero_add _, hso, (by show s.ds.length ≤ 80 + 0; omega), hvb, hrs⟩ ?_ (fun i hi => ?_)
          · conv => whnf
            refine ⟨?_, ?_, rfl⟩ <;> repeat' (first | exact trivial | exact ⟨rfl, entTs_refl _⟩ | exact entV_refl _ | exact entTs_refl _ | exact entL_refl _ | exact ⟨rfl, rfl⟩ | exact wrap_succ (by omega) | exact (fun _ _ _ _ h => h) | rfl | apply And.intro)
          · obtain ⟨q, t, us⟩ := i
            obtain ⟨hq, hto, htl, htv, hus⟩ := hi
            dsimp only at hq hto htl htv hus
            conv => whnf
            refine And.intro (fun h4 => ?_) (fun h4 => ?_)
            · have h4 : q < rs.length := by simp at h4; omega
              have hne : us ≠ [] := fun e => by rw [e] at hq; simp at hq; omega
              obtain ⟨us', x, rfl⟩ : ∃ m r, us = m ++ [r] := ⟨_, _, (List.dropLast_concat_getLast hne).symm⟩
              have hxq : SetQ x.p x.v := hus x (by simp)
              simp only [List.length_append, List.length_cons, List.length_nil] at hq
              conv => whnf
              refine callx_m (undo1_fn t hto tx us' x hw (by omega) hxq) [2, 3, 0, 1] (by kernel_rfl) ?_ ?_ ?_
              · repeat' (first | exact trivial | exact entV_refl _ | exact ⟨rfl, rfl⟩ | rfl | apply And.intro)
              · exact ⟨⟨rfl, entL_refl _⟩, fun _ _ _ _ h => h, ⟨rfl, entL_refl _⟩, fun _ _ _ _ h => h, trivial⟩
              conv => whnf
              refine And.intro (fun h => absurd h (by decide)) (fun _ => ?_)
              conv => whnf
              have hln := insM_len t.ds ⟨x.p, hxq.1⟩
              refine ⟨(q + 1, t.set ⟨x.p, hxq.1⟩ x.v, us'), ⟨by show q + 1 + us'.length = rs.length; omega, hto.set _ hxq.2.2, Nat.le_trans hln (by omega), ?_, fun y hy => hus y (by simp [hy])⟩, by show rs.length - (q + 1) < rs.length - q; omega, rfl, ?_⟩
              · rw [vbk_snoc] at htv
                rw [Sto.val_set]
                exact htv
              conv => whnf
              refine ⟨?_, ?_, rfl⟩ <;> repeat' (first | exact trivial | exact ⟨rfl, entTs_refl _⟩ | exact entV_refl _ | exact entTs_refl _ | exact entL_refl _ | exact ⟨rfl, rfl⟩ | exact wrap_succ (by omega) | exact (fun _ _ _ _ h => h) | rfl | apply And.intro)
            · have hq0 : q = rs.length := by simp at h4; omega
              have hus0 : us = [] := List.length_eq_zero_iff.1 (by omega)
              subst hus0
              clear h4
              have hval : t.val = s1.val := htv
              conv => whnf
              refine callx_m (undo0_fn t tx hw) [2, 3, 0, 1] (by kernel_rfl) ?_ ?_ ?_
              · repeat' (first | exact trivial | exact entV_refl _ | exact ⟨rfl, rfl⟩ | rfl | apply And.intro)
              · exact ⟨⟨rfl, entL_refl _⟩, fun _ _ _ _ h => h, ⟨rfl, entL_refl _⟩, fun _ _ _ _ h => h, trivial⟩
              conv => whnf
              refine callx_tells (backN_fn tx) rfl ?_ ?_
              · intro x hx
                simp only [List.mem_cons, List.not_mem_nil, or_false] at hx
                rcases hx with rfl | rfl
                · intro y hy
                  simp only [encU, List.mem_cons, List.not_mem_nil, or_false] at hy
                  rcases hy with rfl | rfl | rfl | rfl | rfl | rfl <;> trivial
                · trivial
              conv => whnf
              refine And.intro (fun _ => ?_) (fun h => absurd h (by decide))
              conv => whnf
              refine callx_m (srows_fn t.ds t.f (by omega)) [0, 1] (by kernel_rfl) ?_ ?_ ?_
              · repeat' (first | exact trivial | exact entV_refl _ | exact ⟨rfl, rfl⟩ | rfl | apply And.intro)
              · exact ⟨⟨rfl, entL_refl _⟩, fun _ _ _ _ h => h, trivial⟩
              conv => whnf
              have hsame : rowsM t.ds t.f = rowsM s1.ds s1.f := rows_same hto hs hval
              refine callx_tells (sameRows_fn (rowsM t.ds t.f) (rowsM s1.ds s1.f) (Nat.le_trans (rowsM_len t) (by omega))) rfl trivial ?_
              rw [decide_eq_true hsame]
              conv => whnf
              refine And.intro (fun _ => ?_) (fun h => absurd h (by decide))
              conv => whnf
              refine And.intro (fun _ => ?_) (fun h => absurd h (by decide))
              conv => whnf
              refine callx_tells (noteN_fn tx ⟨0, 0, 0, 0, 0, 1⟩) rfl trivial ?_
              conv => whnf
              refine And.intro (fun _ => ?_) (fun h => absurd h (by decide))
              conv => whnf
              refine callx_tells (lenN_fn tx) rfl trivial ?_
              conv => whnf
              refine callx_tells (dropN_fn tx) rfl trivial ?_
              conv => whnf
              decide
def rwsOf (n : Nat) (f : Nat → Nat → Int) : List Eng.Rw := (List.range n).map fun i => ⟨⟨f i 0, f i 1, f i 2, f i 3, f i 4⟩, f i 5⟩
theorem rws_of {n : Nat} {f : Nat → Nat → Int} : entV (.c (.rs n 6 fun i j => .i .i64 (f i j))) (.c (rwX (rwsOf n f))) := by
  refine ⟨by simp [rwsOf], rfl, fun i hi j hj => ?_⟩
  have hi : i < n := by simpa [rwsOf] using hi
  have e : (rwsOf n f).getD i default = ⟨⟨f i 0, f i 1, f i 2, f i 3, f i 4⟩, f i 5⟩ := by simp [rwsOf, List.getD, hi]
  show entC _ (nthC (encR ((rwsOf n f).getD i default)) j)
  rw [e]
  match j, hj with
  | 0, _ => exact ⟨rfl, rfl⟩
  | 1, _ => exact ⟨rfl, rfl⟩
  | 2, _ => exact ⟨rfl, rfl⟩
  | 3, _ => exact ⟨rfl, rfl⟩
  | 4, _ => exact ⟨rfl, rfl⟩
  | 5, _ => exact ⟨rfl, rfl⟩
theorem back_row (l0 : Nat) (h0 : Nat → Nat → Int) (l1 : Nat) (h1 : Nat → Nat → Int) (n2 : Int) (_ : l0 ≤ maxLen) (_ : ∀ i, i < l0 → ∀ j, j < 6 → (Lit.int .i64 (h0 i j)).wf = true) (_ : l1 ≤ maxLen) (_ : ∀ i, i < l1 → ∀ j, j < 6 → (Lit.int .i64 (h1 i j)).wf = true) (w2 : (Lit.int .i64 n2).wf = true) :
    Eng.Fn Try.prog 4 [.c (.rs l0 6 fun i j => .i .i64 (h0 i j)), .c (.rs l1 6 fun i j => .i .i64 (h1 i j)), .c (.i .i64 n2)] (Tells (.c (.b true))) :=
  (back_fn (rwsOf l0 h0) (rwsOf l1 h1) n2 w2).ask ⟨rws_of, rws_of, entV_refl _, trivial⟩
end Go.Proofs.Ytehbalkhboedeaa
