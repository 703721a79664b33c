/- The log: a map of rows; notes are put in. -/
import Derived.Test.YtehbalkhboedeaaEngGu
import Derived.Test.YtehbalkhboedeaaEngGr
import Derived.Test.YtehbalkhboedeaaEngZ
import Derived.Test.YtehbalkhboedeaaNum
import Derived.Test.YtehbalkhboedeaaTab
namespace Go.Eng
open Go Go.RowKit
section
variable {C : Cx} (hT : TabOk C.P C.T) {ts : List XV} {h : List It} {k : KE}
include hT in
/-- m != nil -/
theorem opx_nemap {α : Type} {dst : Option Tmp} {t rt : TypeId} {x y : Operand} {ty : TypeId} {pos : String} {after : Array Edge} {guard : Option (Nat × Bool)} {it e z kt et : Nat} {enc : α → List XC} {g : Int → List α} {ti : TI}
    (hx : opv ts x = .c (.ow it)) (hit : itemAt h it = .abs (LogG e z enc g)) (hy : opv ts y = .c (.v (.map none))) (ht : C.T t = some ti) (hkd : ti.kd = .mp kt et)
    (hk : k (.c .bt) ts h) : OpX C ⟨dst, .binOp .neq t x y rt, ty, pos, after, guard⟩ ts h k := by
  unfold OpX
  refine And.intro (fun c e => Op.noConfusion e) ?_
  intro w0 F E w a hr hp
  have hxr := opv_rel (E := E) hr x
  have hyr := opv_rel (E := E) hr y
  rw [hx] at hxr
  rw [hy] at hyr
  have hyr : a.eval y = .map none := hyr.1
  obtain ⟨dom, vv, _, ⟨b, _, _, hv, _⟩, _⟩ := hp.ok it _ (itemAt_eq _ _ hit (by simp))
  have hv : a.eval x = .map (some b) := hxr.2.1.trans hv
  have hu := mkKd_mp ((TIs.of (hT _ _ ht)).kd.symm.trans hkd)
  have hrun : (execOp a.eval ⟨dst, .binOp .neq t x y rt, ty, pos, after, guard⟩).run C.P w = .ok (.value (.bool true)) w := by
    simp only [execOp, hv, hyr, eqGuard_mp, Sem.run_bind, Sem.run_pure, Result.andThen_ok, binOp, Op.equal, Op.maxDepth]
    rw [run_eq_mp_nil hu _ 9999]; simp
  exact ⟨_, _, w, _, ts, h, E, .inl rfl, hrun, hk, rfl, hr, hp⟩
end
/-- An empty map is an empty log. -/
theorem logNil {α : Type} {h : List It} {it e z : Nat} {enc : α → List XC} {val : List Int → List XC} (hit : itemAt h it = .abs (MapA false [.i64] false 1 [] val)) : SplP h fun K => setH h it (.abs (LogG e z enc fun _ => [])) K := by
  intro w0 F E w hp K hK
  rw [setH_eq] at hK
  have hit := itemAt_eq _ _ hit (by simp)
  obtain ⟨b0, es, cl, e1, e2, e3, e4, e5⟩ := hp.ok it _ hit
  have key : (LogG e z enc fun _ => []).is E.bs (E.sl it) (E.ext it) w :=
    ⟨[], fun _ => undef, ⟨fun k => by simp, fun q hq => by simp at hq, List.nodup_nil⟩, ⟨b0, es, cl, e1, e2, e3, e4.mono fun q hq => by simp at hq, e5⟩, rfl, fun q hq => by simp at hq, fun q hq => by simp at hq⟩
  obtain ⟨E2, h1, h2⟩ := hp.meltA [] (by simp) hit (E.ext it) key (fun b hb => ⟨it, _, .inl rfl, hit, hb⟩)
  exact ⟨_, E2, hK, h1, h2⟩
end Go.Eng
namespace Go.Proofs.Ytehbalkhboedeaa
open Go Go.Eng Go.RowKit
set_option maxRecDepth 100000
set_option maxHeartbeats 8000000
set_option linter.unusedVariables false
set_option linter.unusedSimpArgs false
structure Rw where
  a : Int
  b : Int
  c : Int
  d : Int
  e : Int
  v : Int
deriving DecidableEq, Inhabited
def encP (r : Rw) : List XC := [.i .i64 r.a, .i .i64 r.b, .i .i64 r.c, .i .i64 r.d, .i .i64 r.e]
def encU (r : Rw) : List XC := [.i .i64 r.a, .i .i64 r.b, .i .i64 r.c, .i .i64 r.d, .i .i64 r.e, .i .i64 r.v]
abbrev logA (g : Int → List Rw) : It := .abs (LogG 34 6 encU g)
abbrev logI : It := .cells 73 [.ow 1]
def updG (g : Int → List Rw) (k : Int) (l : List Rw) : Int → List Rw := fun j => if j = k then l else g j
theorem updG_ne {g : Int → List Rw} {k j : Int} {l : List Rw} (h : j ≠ k) : updG g k l j = g j := by simp [updG, h]
theorem updG_eq (g : Int → List Rw) (k : Int) (l : List Rw) : updG g k l k = l := by simp [updG]
theorem dom_put {g : Int → List Rw} {dom : List (List Int)} (h : DomOk g dom) {k : Int} {l : List Rw} (hl : l ≠ []) : DomOk (updG g k l) (insD dom [k]) := by
  refine ⟨fun j => ?_, fun q hq => ?_, ?_⟩
  · unfold insD updG
    by_cases e : j = k
    · subst e
      simp only [if_true]
      refine ⟨fun _ => hl, fun _ => ?_⟩
      split
      · assumption
      · simp
    · rw [if_neg e, ← h.1 j]
      split
      · rfl
      · simp [e]
  · unfold insD at hq
    split at hq
    · exact h.2.1 q hq
    · rcases List.mem_append.1 hq with hq | hq
      · exact h.2.1 q hq
      · simp at hq; subst hq; rfl
  · unfold insD
    split
    · exact h.2.2
    · exact nodup_snoc h.2.2 (by assumption)
theorem ins_mem {dom : List (List Int)} {k q : List Int} (h : q ∈ insD dom k) (hne : q ≠ k) : q ∈ dom := by
  unfold insD at h
  split at h
  · exact h
  · rcases List.mem_append.1 h with h | h
    · exact h
    · simp at h; exact absurd h hne
theorem upd_val {vv : List Int → Value} {k : List Int} {u : Value} (q : List Int) : updV (fun q => [XC.v (vv q)]) k [.v u] q = [.v (if q = k then u else vv q)] := by
  unfold updV; split <;> rfl
def noteG (g : Int → List Rw) (k : Int) (r : Rw) : Int → List Rw := if 1 ≤ k then updG g k (g k ++ [r]) else g
theorem note_fn (g : Int → List Rw) (k : Int) (r : Rw) (hl : (g k).length ≤ 1000) :
    FnM Try.prog 15 [.c (.p 0 0), .c (.i .i64 k), .a (encP r), .c (.i .i64 r.v)] [logI, logA g] [.p 0 0] (.c (.b (decide (1 ≤ k)))) [logI, logA (noteG g k r)] := by
  refine FnM.of tab_ok Try.func15 (by kernel_rfl) (by kernel_rfl) (fun vs => ?_)
  conv => whnf
  refine callx_inline tab_ok Try.func41 (by kernel_rfl) (by kernel_rfl) (fun us => ?_)
  conv => whnf
  refine opx_nemap tab_ok rfl rfl rfl rfl rfl ?_
  conv => whnf
  refine ⟨rfl, ?_⟩
  conv => whnf
  refine And.intro (fun h1 => ?_) (fun h1 => ?_)
  · have h1 : k < 1 := by simpa using h1
    conv => whnf
    have e1 : decide (1 ≤ k) = false := by simp; omega
    rw [e1, noteG, if_neg (by omega)]
    refine mt_done (v := .c (.b false)) (hs' := [logI, logA g]) (fx := [.p 0 0]) (ys := [.c (.p 0 0)]) [0, 1] 2 rfl rfl rfl rfl rfl ?_ ⟨entV_refl _, trivial⟩ ?_
    · exact rfl
    · exact ⟨⟨rfl, entL_refl _⟩, fun _ _ _ _ h => h, trivial⟩
  · have h1 : 1 ≤ k := by simp at h1; omega
    have e1 : decide (1 ≤ k) = true := by simp; omega
    rw [e1, noteG, if_pos h1]
    conv => whnf
    by_cases hk : g k = []
    · refine drawx_spl (openOut (it := 1) rfl) ?_
      intro dom vv hd
      have hkd : [k] ∉ dom := fun h => (hd.1 k).1 h hk
      conv => whnf
      refine drawx_plan tab_ok [1] (.take 0 (.take 1 (.take 2 (.take 3 (.take 4 (.take 5 (.take 6 (.take 7 (.take 8 (.take 9 (.take 11 (.take 12 (.take 13 (.two 10 14 (.one 14 (.one 15 (.one 16 .done))) (.one 10 (.one 15 (.one 16 .done))))))))))))))))) (by kernel_rfl) (by kernel_rfl) (by kernel_rfl) ?_
      conv => whnf
      refine And.intro ?_ ?_
      · refine opf_valr (valr_look0 tab_ok rfl rfl rfl rfl rfl rfl rfl hkd) ?_
        conv => whnf
        refine ⟨by simp only [List.length_map, List.length_cons, List.length_nil]; omega, ?_⟩
        conv => whnf
        refine opf_update tab_ok rfl rfl rfl rfl rfl rfl rfl (fun u => ?_)
        conv => whnf
        refine mt_spl (v := .c (.b true)) (hs' := [logI, logA (updG g k (g k ++ [r]))]) (fx := [.p 0 0]) (x := .c .bt) (closeRow (it := 1) (g := g) 5 7 8 k (updG g k (g k ++ [r])) rfl rfl rfl rfl rfl (fun q _ => upd_val q) (fun q hq hne => ins_mem hq hne) (by rw [updG_eq, hk]; rfl) (fun j hj => updG_ne hj) (dom_put hd (by simp))) ?_
        conv => whnf
        refine mt_done (v := .c (.b true)) (hs' := [logI, logA (updG g k (g k ++ [r]))]) (fx := [.p 0 0]) (x := .c .bt) (ys := [.c (.p 0 0)]) [0, 1] 2 rfl rfl rfl rfl rfl rfl ⟨entV_refl _, trivial⟩ ⟨⟨rfl, entL_refl _⟩, fun _ _ _ _ h => h, trivial⟩
      · refine opf_valr (valr_look0 tab_ok rfl rfl rfl rfl rfl rfl rfl hkd) ?_
        conv => whnf
        refine ⟨by simp only [List.length_map, List.length_cons, List.length_nil]; omega, ?_⟩
        conv => whnf
        refine opf_update tab_ok rfl rfl rfl rfl rfl rfl rfl (fun u => ?_)
        conv => whnf
        refine mt_spl (v := .c (.b true)) (hs' := [logI, logA (updG g k (g k ++ [r]))]) (fx := [.p 0 0]) (x := .c .bt) (closeRow (it := 1) (g := g) 5 7 8 k (updG g k (g k ++ [r])) rfl rfl rfl rfl rfl (fun q _ => upd_val q) (fun q hq hne => ins_mem hq hne) (by rw [updG_eq, hk]; rfl) (fun j hj => updG_ne hj) (dom_put hd (by simp))) ?_
        conv => whnf
        refine mt_done (v := .c (.b true)) (hs' := [logI, logA (updG g k (g k ++ [r]))]) (fx := [.p 0 0]) (x := .c .bt) (ys := [.c (.p 0 0)]) [0, 1] 2 rfl rfl rfl rfl rfl rfl ⟨entV_refl _, trivial⟩ ⟨⟨rfl, entL_refl _⟩, fun _ _ _ _ h => h, trivial⟩
    · refine drawx_spl (openIn (it := 1) k rfl hk) ?_
      intro dom vv hd hkd
      conv => whnf
      refine drawx_plan tab_ok [1, 6] (.take 0 (.take 1 (.take 2 (.take 3 (.take 4 (.take 5 (.take 6 (.take 7 (.take 8 (.take 9 (.take 11 (.take 12 (.take 13 (.two 10 14 (.one 14 (.one 15 (.one 16 .done))) (.one 10 (.one 15 (.one 16 .done))))))))))))))))) (by kernel_rfl) (by kernel_rfl) (by kernel_rfl) ?_
      conv => whnf
      refine And.intro ?_ ?_
      · refine opf_valr (valr_look tab_ok (u := vv [k]) (hd := 7) rfl rfl rfl rfl rfl rfl rfl hkd) ?_
        conv => whnf
        refine ⟨by simp only [List.length_map, List.length_cons, List.length_nil]; omega, ?_⟩
        conv => whnf
        refine opf_update tab_ok rfl rfl rfl rfl rfl rfl rfl (fun u => ?_)
        conv => whnf
        refine mt_spl (v := .c (.b true)) (hs' := [logI, logA (updG g k (g k ++ [r]))]) (fx := [.p 0 0]) (x := .c .bt) (closeRow (it := 1) (g := g) 5 6 9 k (updG g k (g k ++ [r])) rfl rfl rfl rfl rfl (fun q _ => upd_val q) (fun q hq hne => List.mem_filter.2 ⟨ins_mem hq hne, by simpa using hne⟩) (by rw [updG_eq, List.map_append]; rfl) (fun j hj => updG_ne hj) (dom_put hd (by simp))) ?_
        conv => whnf
        refine mt_done (v := .c (.b true)) (hs' := [logI, logA (updG g k (g k ++ [r]))]) (fx := [.p 0 0]) (x := .c .bt) (ys := [.c (.p 0 0)]) [0, 1] 2 rfl rfl rfl rfl rfl rfl ⟨entV_refl _, trivial⟩ ⟨⟨rfl, entL_refl _⟩, fun _ _ _ _ h => h, trivial⟩
      · refine opf_valr (valr_look tab_ok (u := vv [k]) (hd := 7) rfl rfl rfl rfl rfl rfl rfl hkd) ?_
        conv => whnf
        refine ⟨by simp only [List.length_map, List.length_cons, List.length_nil]; omega, ?_⟩
        conv => whnf
        refine opf_update tab_ok rfl rfl rfl rfl rfl rfl rfl (fun u => ?_)
        conv => whnf
        refine mt_spl (v := .c (.b true)) (hs' := [logI, logA (updG g k (g k ++ [r]))]) (fx := [.p 0 0]) (x := .c .bt) (closeRow (it := 1) (g := g) 5 6 9 k (updG g k (g k ++ [r])) rfl rfl rfl rfl rfl (fun q _ => upd_val q) (fun q hq hne => List.mem_filter.2 ⟨ins_mem hq hne, by simpa using hne⟩) (by rw [updG_eq, List.map_append]; rfl) (fun j hj => updG_ne hj) (dom_put hd (by simp))) ?_
        conv => whnf
        refine mt_done (v := .c (.b true)) (hs' := [logI, logA (updG g k (g k ++ [r]))]) (fx := [.p 0 0]) (x := .c .bt) (ys := [.c (.p 0 0)]) [0, 1] 2 rfl rfl rfl rfl rfl rfl ⟨entV_refl _, trivial⟩ ⟨⟨rfl, entL_refl _⟩, fun _ _ _ _ h => h, trivial⟩
end Go.Proofs.Ytehbalkhboedeaa
