/- What one sets and notes is taken back: the walk. -/
import Derived.Test.YtehbalkhboedeaaUndB
namespace Go.Proofs.Ytehbalkhboedeaa
open Go Go.Eng Go.RowKit
set_option maxRecDepth 100000
set_option maxHeartbeats 8000000
set_option linter.unusedVariables false
set_option linter.unusedSimpArgs false
abbrev storS (s : Sto) : It := storA (s.ds.map kM) s.f
theorem set1S (s : Sto) (hs : s.Ok) (p : Pth) (v : Int) (hok : SetQ p v) :
    FnM Try.prog 21 [.c (.p 0 0), .a (Eng.encP p), .c (.i .i64 v)] [storI, storS s] [.p 0 0] (.t [.c (.i .i64 (s.val (kP p))), .c (.i .i64 0)]) [storI, storS (s.set ⟨p, hok.1⟩ v)] := by
  have := set1_fn (s.ds.map kM) s.f hs.dom p v hok
  rw [show kP p = kM ⟨p, hok.1⟩ from rfl, insD_M] at this
  exact this
theorem undo1_fn (s : Sto) (hs : s.Ok) (tx : Int) (rs : List Eng.Rw) (x : Eng.Rw) (hw : (Lit.int .i64 tx).wf = true) (h : rs.length < 1000) (hx : SetQ x.p x.v) :
    FnM Try.prog 23 [.c (.p 0 0), .c (.p 2 0), .c (.i .i64 tx)] [logI, logA (gOf (lgOf tx (rs ++ [x]))), .cells 84 [.ow 3], storS s] [.p 0 0, .p 2 0] (.t [.a (encR x), .c (.b true)]) [logI, logA (gOf (lgOf tx rs)), .cells 84 [.ow 3], storS (s.set ⟨x.p, hx.1⟩ x.v)] := by
  refine FnM.of tab_ok Try.func23 (by kernel_rfl) (by kernel_rfl) (fun vs => ?_)
  conv => whnf
  refine callx_m (backB_fn tx rs x hw h) [0, 1] (by kernel_rfl) ?_ ?_ ?_
  · repeat' (first | exact trivial | exact entV_refl _ | exact ⟨rfl, rfl⟩ | rfl | apply And.intro)
  · exact ⟨⟨rfl, entL_refl _⟩, fun _ _ _ _ h => h, trivial⟩
  conv => whnf
  refine And.intro (fun _ => ?_) (fun h => absurd h (by decide))
  conv => whnf
  refine callx_m (set1S s hs x.p x.v hx) [2, 3] (by kernel_rfl) ?_ ?_ ?_
  · repeat' (first | exact trivial | exact entV_refl _ | exact ⟨rfl, rfl⟩ | rfl | apply And.intro)
  · exact ⟨⟨rfl, entL_refl _⟩, fun _ _ _ _ h => h, trivial⟩
  conv => whnf
  exact mt_done_t (l := [.a (encR x), .c (.b true)]) (hs' := [logI, logA (gOf (lgOf tx rs)), .cells 84 [.ow 3], storS (s.set ⟨x.p, hx.1⟩ x.v)]) (fx := [.p 0 0, .p 2 0]) (x := .t [.a (encR x), .c (.b true)]) (ys := [.c (.p 0 0), .c (.p 2 0)]) [0, 1, 2, 3] 4 rfl rfl rfl (by simp) rfl rfl ⟨entL_refl _, rfl, trivial⟩ ⟨entV_refl _, entV_refl _, trivial⟩ ⟨⟨rfl, entL_refl _⟩, fun _ _ _ _ h => h, ⟨rfl, entL_refl _⟩, fun _ _ _ _ h => h, trivial⟩
theorem undo0_fn (s : Sto) (tx : Int) (hw : (Lit.int .i64 tx).wf = true) :
    FnM Try.prog 23 [.c (.p 0 0), .c (.p 2 0), .c (.i .i64 tx)] [logI, logA (gOf (lgOf tx [])), .cells 84 [.ow 3], storS s] [.p 0 0, .p 2 0] (.t [.a (encU ⟨0, 0, 0, 0, 0, 0⟩), .c (.b false)]) [logI, logA (gOf (lgOf tx [])), .cells 84 [.ow 3], storS s] := by
  refine FnM.of tab_ok Try.func23 (by kernel_rfl) (by kernel_rfl) (fun vs => ?_)
  conv => whnf
  refine callx_m (backE_fn tx hw) [0, 1] (by kernel_rfl) ?_ ?_ ?_
  · repeat' (first | exact trivial | exact entV_refl _ | exact ⟨rfl, rfl⟩ | rfl | apply And.intro)
  · exact ⟨⟨rfl, entL_refl _⟩, fun _ _ _ _ h => h, trivial⟩
  conv => whnf
  refine And.intro (fun h => absurd h (by decide)) (fun _ => ?_)
  conv => whnf
  exact mt_done_t (l := [.a (encU ⟨0, 0, 0, 0, 0, 0⟩), .c (.b false)]) (hs' := [logI, logA (gOf (lgOf tx [])), .cells 84 [.ow 3], storS s]) (fx := [.p 0 0, .p 2 0]) (x := .t [.a (encU ⟨0, 0, 0, 0, 0, 0⟩), .c (.b false)]) (ys := [.c (.p 0 0), .c (.p 2 0)]) [0, 1, 2, 3] 4 rfl rfl rfl (by simp) rfl rfl ⟨entL_refl _, rfl, trivial⟩ ⟨entV_refl _, entV_refl _, trivial⟩ ⟨⟨rfl, entL_refl _⟩, fun _ _ _ _ h => h, ⟨rfl, entL_refl _⟩, fun _ _ _ _ h => h, trivial⟩
end Go.Proofs.Ytehbalkhboedeaa
