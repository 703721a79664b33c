/- The log: made, all of one dropped, the last of one taken back. -/
import Derived.Test.YtehbalkhboedeaaUnd3
namespace Go.Proofs.Ytehbalkhboedeaa
open Go Go.Eng Go.RowKit
set_option maxRecDepth 100000
set_option maxHeartbeats 8000000
set_option linter.unusedVariables false
set_option linter.unusedSimpArgs false
theorem new_fn : FnM Try.prog 10 [] [] [] (.c (.p 0 0)) [logI, logA fun _ => []] := by
  refine FnM.of tab_ok Try.func10 (by kernel_rfl) (by kernel_rfl) (fun vs => ?_)
  conv => whnf
  refine opx_makeMap false [.i64] false 1 (fun _ => []) ?_
  conv => whnf
  refine mt_spl (v := .c (.p 0 0)) (hs' := [logI, logA fun _ => []]) (fx := []) (x := .c (.p 2 0)) (logNil (e := 34) (z := 6) (enc := encU) (it := 1) rfl) ?_
  conv => whnf
  exact mt_done (v := .c (.p 0 0)) (hs' := [logI, logA fun _ => []]) (fx := []) (x := .c (.p 2 0)) (ys := []) [2, 1] 0 rfl rfl rfl rfl rfl (entV_refl _) trivial ⟨⟨rfl, entL_refl _⟩, fun _ _ _ _ h => h, trivial⟩
theorem dom_del {g : Int → List Rw} {dom : List (List Int)} (h : DomOk g dom) (k : Int) : DomOk (updG g k []) (dom.erase [k]) := by
  refine ⟨fun j => ?_, fun q hq => h.2.1 q (List.mem_of_mem_erase hq), h.2.2.erase _⟩
  rw [h.2.2.mem_erase_iff]
  unfold updG
  by_cases e : j = k
  · subst e; simp
  · rw [if_neg e, ← h.1 j]; simp [e]
theorem ldrop_fn (l : Lg) (k : Int) (hl : LgOk l) :
    FnM Try.prog 13 [.c (.p 0 0), .c (.i .i64 k)] [logI, logA (gOf l)] [.p 0 0] (.c (.i .i64 (gOf l k).length)) [logI, logA (updG (gOf l) k [])] := by
  refine FnM.of tab_ok Try.func13 (by kernel_rfl) (by kernel_rfl) (fun vs => ?_)
  conv => whnf
  refine callx_m (len_fn l k hl) [0, 1] (by kernel_rfl) ⟨entV_refl _, entV_refl _, trivial⟩ ⟨⟨rfl, entL_refl _⟩, fun _ _ _ _ h => h, trivial⟩ ?_
  conv => whnf
  refine And.intro (fun h1 => ?_) (fun h1 => ?_)
  · conv => whnf
    refine opx_spl (fun c e => Op.noConfusion e) (openOut (it := 1) rfl) ?_
    intro dom vv hd
    conv => whnf
    refine opx_delete tab_ok rfl rfl rfl rfl rfl ?_
    conv => whnf
    refine mt_spl (v := .c (.i .i64 (gOf l k).length)) (hs' := [logI, logA (updG (gOf l) k [])]) (fx := [.p 0 0]) (x := .c (.i .i64 (gOf l k).length)) (closeNone (it := 1) (g := gOf l) 3 (updG (gOf l) k []) rfl rfl rfl (fun _ _ => rfl) (fun q hq => List.mem_of_mem_erase hq) (fun j hj => ?_) (dom_del hd k)) ?_
    · unfold updG at hj ⊢
      split
      · rename_i e; rw [if_pos e] at hj; exact absurd rfl hj
      · rfl
    conv => whnf
    exact mt_done (v := .c (.i .i64 (gOf l k).length)) (hs' := [logI, logA (updG (gOf l) k [])]) (fx := [.p 0 0]) (x := .c (.i .i64 (gOf l k).length)) (ys := [.c (.p 0 0)]) [0, 1] 2 rfl rfl rfl rfl rfl (entV_refl _) ⟨entV_refl _, trivial⟩ ⟨⟨rfl, entL_refl _⟩, fun _ _ _ _ h => h, trivial⟩
  · have h1 : gOf l k = [] := by
      have : ¬ 0 < (gOf l k).length := by simpa using h1
      exact List.length_eq_zero_iff.1 (by omega)
    have e1 : updG (gOf l) k [] = gOf l := by
      funext j
      unfold updG
      split
      · rename_i e; rw [e, h1]
      · rfl
    rw [e1]
    conv => whnf
    exact mt_done (v := .c (.i .i64 (gOf l k).length)) (hs' := [logI, logA (gOf l)]) (fx := [.p 0 0]) (x := .c (.i .i64 (gOf l k).length)) (ys := [.c (.p 0 0)]) [0, 1] 2 rfl rfl rfl rfl rfl (entV_refl _) ⟨entV_refl _, trivial⟩ ⟨⟨rfl, entL_refl _⟩, fun _ _ _ _ h => h, trivial⟩
theorem lback_fn (l : Lg) (k : Int) (hl : LgOk l) :
    FnM Try.prog 11 [.c (.p 0 0), .c (.i .i64 k)] [logI, logA (gOf l)] [.p 0 0] (.t [.a (encU ((gOf l k).getLastD ⟨0, 0, 0, 0, 0, 0⟩)), .c (.b (!(gOf l k).isEmpty))]) [logI, logA (updG (gOf l) k (gOf l k).dropLast)] := by
  refine FnM.of tab_ok Try.func11 (by kernel_rfl) (by kernel_rfl) (fun vs => ?_)
  conv => whnf
  refine callx_m (len_fn l k hl) [0, 1] (by kernel_rfl) ⟨entV_refl _, entV_refl _, trivial⟩ ⟨⟨rfl, entL_refl _⟩, fun _ _ _ _ h => h, trivial⟩ ?_
  conv => whnf
  refine And.intro (fun h1 => ?_) (fun h1 => ?_)
  · have h1 : gOf l k = [] := by
      have : (gOf l k).length = 0 := by simpa using h1
      exact List.length_eq_zero_iff.1 this
    have e1 : updG (gOf l) k (gOf l k).dropLast = gOf l := by
      rw [h1]
      funext j
      unfold updG
      split
      · rename_i e; rw [e, h1]; rfl
      · rfl
    rw [e1, h1]
    conv => whnf
    exact mt_done_t (l := [.a (encU ⟨0, 0, 0, 0, 0, 0⟩), .c (.b false)]) (hs' := [logI, logA (gOf l)]) (fx := [.p 0 0]) (x := .t [.a [.il .i64 0, .il .i64 0, .il .i64 0, .il .i64 0, .il .i64 0, .il .i64 0], .c .bf]) (ys := [.c (.p 0 0)]) [0, 1] 2 rfl rfl rfl (by simp) rfl rfl ⟨⟨⟨rfl, rfl⟩, ⟨rfl, rfl⟩, ⟨rfl, rfl⟩, ⟨rfl, rfl⟩, ⟨rfl, rfl⟩, ⟨rfl, rfl⟩, trivial⟩, rfl, trivial⟩ ⟨entV_refl _, trivial⟩ ⟨⟨rfl, entL_refl _⟩, fun _ _ _ _ h => h, trivial⟩
  · have hne : gOf l k ≠ [] := fun e => by rw [e] at h1; simp at h1
    obtain ⟨m, r, hmr⟩ : ∃ m r, gOf l k = m ++ [r] := ⟨_, _, (List.dropLast_concat_getLast hne).symm⟩
    have hgl := gOf_len l k
    have hl1 := hl.1
    have hw : IntKind.i64.wrap (((gOf l k).length : Int) - 1) = (m.length : Int) := by
      rw [hmr] at hgl ⊢
      simp only [List.length_append, List.length_cons, List.length_nil] at hgl ⊢
      rw [wrap_ok (by omega) (by omega)]; omega
    conv => whnf
    refine opx_spl (fun c e => Op.noConfusion e) (openIn (it := 1) k rfl hne) ?_
    intro dom vv hd hkd
    conv => whnf
    refine opx_valr (fun c e => Op.noConfusion e) (valr_look tab_ok (q := k) (u := vv [k]) (hd := 6) rfl rfl rfl rfl rfl rfl rfl hkd) ?_
    conv => whnf
    rw [hw]
    refine ⟨⟨by omega, by rw [List.length_map, hmr]; simp only [List.length_append, List.length_cons, List.length_nil]; omega⟩, ?_⟩
    conv => whnf
    refine ⟨encU r, by rw [hmr]; simp, ?_⟩
    conv => whnf
    refine drawx_plan tab_ok [1] (.take 0 (.take 1 (.take 2 (.take 3 (.take 4 (.take 5 (.take 6 (.take 7 (.take 8 (.take 9 (.take 11 (.take 12 (.one 10 (.one 13 (.one 14 (.one 15 .done)))))))))))))))) (by kernel_rfl) (by kernel_rfl) (by kernel_rfl) ?_
    conv => whnf
    refine opf_valr (valr_look tab_ok (q := k) (u := vv [k]) (hd := 6) rfl rfl rfl rfl rfl rfl rfl hkd) ?_
    conv => whnf
    rw [hw]
    refine opf_valr (valr_cut tab_ok 0 m.length rfl rfl rfl rfl rfl rfl (.inl ⟨rfl, rfl⟩) (.inr ⟨_, rfl⟩) ⟨by omega, by rw [List.length_map, hmr]; simp⟩) ?_
    conv => whnf
    rw [Nat.sub_zero]
    refine callf_row_sw (cloneU_own m (by rw [hmr] at hgl; simp at hgl; omega)) rfl (by rw [List.length_map, hmr]; simp) ?_ rfl encU_len encU_flat ?_
    · refine ⟨rfl, rfl, fun i hi j hj => ?_⟩
      have hi : i < m.length := hi
      show entC (cell2 ((gOf l k).map encU) i j) (nthC (encU (m.getD i default)) j)
      unfold cell2
      rw [nthL_map encU default _ i (by rw [hmr]; simp; omega), hmr]
      rw [show (m ++ [r]).getD i default = m.getD i default by rw [List.getD_eq_getElem?_getD, List.getD_eq_getElem?_getD, List.getElem?_append_left hi]]
      exact entC_refl _
    conv => whnf
    refine opf_update tab_ok rfl rfl rfl rfl rfl rfl rfl (fun u => ?_)
    conv => whnf
    have hdl : (gOf l k).dropLast = m := by rw [hmr]; simp
    have hla : (gOf l k).getLastD ⟨0, 0, 0, 0, 0, 0⟩ = r := by rw [hmr]; simp
    have hie : (!(gOf l k).isEmpty) = true := by rw [hmr]; simp
    rw [hdl, hla, hie]
    have hins : insD dom [k] = dom := by unfold insD; rw [if_pos hkd]
    refine And.intro (fun h2 => ?_) (fun h2 => ?_)
    · have h2 : m = [] := by
        rw [hmr] at h2
        simp only [List.length_append, List.length_cons, List.length_nil, beq_iff_eq] at h2
        exact List.length_eq_zero_iff.1 (by omega)
      subst h2
      conv => whnf
      refine opx_delete tab_ok rfl rfl rfl rfl rfl ?_
      conv => whnf
      refine mt_spl (v := .t [.a (encU r), .c (.b true)]) (hs' := [logI, logA (updG (gOf l) k [])]) (fx := [.p 0 0]) (x := .t [.a (encU r), .c .bt]) (closeNone (it := 1) (g := gOf l) 4 (updG (gOf l) k []) rfl rfl rfl (fun q hq => ?_) (fun q hq => ?_) (fun j hj => ?_) (by rw [hins]; exact dom_del hd k)) ?_
      · have hq := (hd.2.2.mem_erase_iff.1 (by rw [hins] at hq; exact hq)).1
        unfold updV; rw [if_neg hq]
      · have hq := hd.2.2.mem_erase_iff.1 (by rw [hins] at hq; exact hq)
        exact List.mem_filter.2 ⟨hq.2, by simpa using hq.1⟩
      · unfold updG at hj ⊢
        split
        · rename_i e; rw [if_pos e] at hj; exact absurd rfl hj
        · rfl
      conv => whnf
      exact mt_done_t (l := [.a (encU r), .c (.b true)]) (hs' := [logI, logA (updG (gOf l) k [])]) (fx := [.p 0 0]) (x := .t [.a (encU r), .c .bt]) (ys := [.c (.p 0 0)]) [0, 1] 2 rfl rfl rfl (by simp) rfl rfl ⟨entL_refl _, rfl, trivial⟩ ⟨entV_refl _, trivial⟩ ⟨⟨rfl, entL_refl _⟩, fun _ _ _ _ h => h, trivial⟩
    · have h2 : m ≠ [] := fun e => by rw [hmr, e] at h2; simp at h2
      conv => whnf
      refine mt_spl (v := .t [.a (encU r), .c (.b true)]) (hs' := [logI, logA (updG (gOf l) k m)]) (fx := [.p 0 0]) (x := .t [.a (encU r), .c .bt]) (closeRow (it := 1) (g := gOf l) 4 8 9 k (updG (gOf l) k m) rfl rfl rfl rfl rfl (fun q _ => upd_val q) (fun q hq hne => List.mem_filter.2 ⟨ins_mem hq hne, by simpa using hne⟩) (by rw [updG_eq]) (fun j hj => updG_ne hj) (dom_put hd h2)) ?_
      conv => whnf
      exact mt_done_t (l := [.a (encU r), .c (.b true)]) (hs' := [logI, logA (updG (gOf l) k m)]) (fx := [.p 0 0]) (x := .t [.a (encU r), .c .bt]) (ys := [.c (.p 0 0)]) [0, 1] 2 rfl rfl rfl (by simp) rfl rfl ⟨entL_refl _, rfl, trivial⟩ ⟨entV_refl _, trivial⟩ ⟨⟨rfl, entL_refl _⟩, fun _ _ _ _ h => h, trivial⟩
end Go.Proofs.Ytehbalkhboedeaa
