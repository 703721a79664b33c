/- Rows of edges: the library's Compact, as this program bears it. -/
import Derived.Test.YtehbalkhboedeaaEngGo
import Derived.Test.YtehbalkhboedeaaEngGi
import Derived.Test.YtehbalkhboedeaaData
import Derived.Test.YtehbalkhboedeaaTab
import Derived.Shelf.SlSortCmp.WholeK
import Derived.Shelf.Lay
import Derived.Ground.SlsfProg
import Derived.Test.YtehbalkhboedeaaProg
import Derived.Shelf.SlSortCmp.NoneTotal
namespace Go.Proofs.Ytehbalkhboedeaa
open Go Go.Eng Go.RowKit
set_option maxRecDepth 100000
set_option maxHeartbeats 4000000
set_option linter.unusedVariables false
set_option linter.unusedSimpArgs false
structure Eg where
  fr : Int
  to : Int
theorem Eg.eq_iff {a b : Eg} : a = b ↔ a.fr = b.fr ∧ a.to = b.to := by cases a; cases b; simp
instance : DecidableEq Eg := fun a b => decidable_of_iff _ Eg.eq_iff.symm
instance : Inhabited Eg := ⟨⟨0, 0⟩⟩
def encEg (e : Eg) : List XC := [.i .i64 e.fr, .i .i64 e.to]
abbrev egsX (l : List Eg) : XC := rowX encEg default 2 l
abbrev rowE (l : List Eg) : It := .row 64 2 (l.map encEg)
theorem eqE (x y : Eg) : (x.fr == y.fr && x.to == y.to) = decide (x = y) := by
  rw [Bool.eq_iff_iff]; simp [Eg.eq_iff]
def compAt (l : List Eg) : Nat → List Eg
  | 0 => []
  | k + 1 => if 1 ≤ k ∧ l.getD k default = l.getD (k - 1) default then compAt l k else compAt l k ++ [l.getD k default]
def compL (l : List Eg) : List Eg := compAt l l.length
theorem take_snocE {α : Type} (d : α) {l : List α} {k : Nat} (h : k < l.length) : l.take (k + 1) = l.take k ++ [l.getD k d] := by
  rw [List.take_add_one, List.getD_eq_getElem?_getD, List.getElem?_eq_getElem h]; rfl
theorem elE (l : List Eg) {k : Nat} (h : k < l.length) : (l.map encEg)[k]? = some (encEg (l.getD k default)) := by
  rw [List.getElem?_map, List.getD_eq_getElem?_getD, List.getElem?_eq_getElem h]; rfl
theorem compact_fn (l : List Eg) (hl : l.length ≤ 1000000) : FnM Try.prog 77 [.c (.ow 0)] [rowE l] [] (.c (.ow 0)) [rowE (compL l)] := by
  refine FnM.of tab_ok Try.func77 (by kernel_rfl) (by kernel_rfl) (fun vs => ?_)
  conv => whnf
  have hlm : (l.map encEg).length = l.length := List.length_map ..
  refine And.intro (fun h1 => ?_) (fun h1 => ?_)
  · have h1 : l.length < 2 := by simp at h1; omega
    have e : compL l = l := by
      rcases l with _ | ⟨a, _ | ⟨b, r⟩⟩
      · rfl
      · rfl
      · simp at h1; omega
    conv => whnf
    rw [e]
    refine mt_done (v := .c (.ow 0)) (hs' := [rowE l]) (fx := []) (x := .c (.ow 0)) (h := [rowE l, .held vs []]) (ys := []) [0] 1 rfl rfl rfl rfl rfl (entV_refl _) trivial ?_
    repeat' (first | exact trivial | exact entLL_refl _ | rfl | apply And.intro)
    all_goals trace_state
  · have h1 : 2 ≤ l.length := by simp at h1; omega
    conv => whnf
    refine loopi tab_ok (fun k => 1 ≤ k ∧ k ≤ l.length ∧ compAt l k = l.take k) (fun k => [(0, .c (.ow 0)), (3, .c (.i .i64 k))]) (fun k => [rowE l, .held vs []]) (fun k => l.length - k) 1 61 rfl ⟨by omega, by omega, ?_⟩ ?_ (fun k hk => ?_)
    · rw [take_snocE default (by omega)]; rfl
    · refine ⟨?_, ?_, rfl⟩ <;> repeat' (first | exact trivial | exact entV_refl _ | exact entLL_refl _ | exact ⟨rfl, rfl⟩ | rfl | apply And.intro)
      all_goals trace_state
    · obtain ⟨hk1, hk, hc⟩ := hk
      conv => whnf
      refine And.intro (fun h2 => ?_) (fun h2 => ?_)
      · have h2 : k < l.length := by simp at h2; omega
        have hw : IntKind.i64.wrap ((k : Int) - 1) = ((k - 1 : Nat) : Int) := by rw [wrap_ok (by omega) (by omega)]; omega
        conv => whnf
        refine drawx_plan tab_ok [] (.take 0 (.take 1 (.take 2 (.take 3 (.take 4 (.take 5 (.take 6 (.take 7 (.take 8 (.take 9 .done)))))))))) (by kernel_rfl) (by kernel_rfl) (by kernel_rfl) ?_
        conv => whnf
        rw [hlm]
        refine ⟨by omega, ?_⟩
        conv => whnf
        refine ⟨_, elE l (by omega), ?_⟩
        conv => whnf
        rw [hw, hlm]
        refine ⟨by omega, ?_⟩
        conv => whnf
        refine ⟨_, elE l (by omega), ?_⟩
        conv => whnf
        rw [eqE]
        rw [Int.toNat_natCast, Int.toNat_natCast]
        refine And.intro (fun h3 => ?_) (fun h3 => ?_)
        · have h3 : l.getD k default = l.getD (k - 1) default := of_decide_eq_true h3
          have hck : compAt l (k + 1) = l.take k := by
            show (if 1 ≤ k ∧ l.getD k default = l.getD (k - 1) default then compAt l k else compAt l k ++ [l.getD k default]) = _
            rw [if_pos ⟨hk1, h3⟩, hc]
          conv => whnf
          refine opx_cut tab_ok k l.length rfl rfl rfl rfl rfl rfl (.inr ⟨_, rfl⟩) (.inl ⟨rfl, hlm.symm⟩) ⟨by omega, by rw [hlm]; omega⟩ ?_
          conv => whnf
          refine loopi tab_ok (fun (i : Nat × Nat × List Eg) => 1 ≤ i.1 ∧ k + i.1 ≤ l.length ∧ i.2.2.length = l.length ∧ k ≤ i.2.1 ∧ i.2.1 + 1 ≤ k + i.1 ∧ i.2.2.take i.2.1 = compAt l (k + i.1) ∧ ∀ j, k + i.1 ≤ j + 1 → i.2.2.getD j default = l.getD j default)
            (fun i => [(0, .c (.ow 0)), (3, .c (.i .i64 i.2.1)), (4, .c (.sw 0 k (l.length - k) 2)), (5, .c (.i .i64 i.1))]) (fun i => [rowE i.2.2, .held vs []]) (fun i => l.length - (k + i.1)) (1, k, l) 61 rfl ⟨Nat.le_refl _, h2, rfl, Nat.le_refl _, Nat.le_refl _, hck.symm, fun _ _ => rfl⟩ ?_ (fun i hi => ?_)
          · refine ⟨?_, ?_, rfl⟩ <;> repeat' (first | exact trivial | exact entV_refl _ | exact entLL_refl _ | exact ⟨rfl, rfl⟩ | rfl | apply And.intro)
            all_goals trace_state
          · obtain ⟨k2, kk, arr⟩ := i
            obtain ⟨i1, i2, i3, i4, i5, i6, i7⟩ := hi
            dsimp only at i1 i2 i3 i4 i5 i6 i7
            have ham : (arr.map encEg).length = l.length := by rw [List.length_map, i3]
            conv => whnf
            refine And.intro (fun h4 => ?_) (fun h4 => ?_)
            · have h4 : k2 < l.length - k := by simp at h4; omega
              have hw2 : IntKind.i64.wrap ((k2 : Int) - 1) = ((k2 - 1 : Nat) : Int) := by rw [wrap_ok (by omega) (by omega)]; omega
              have hcs : compAt l (k + k2 + 1) = if 1 ≤ k + k2 ∧ l.getD (k + k2) default = l.getD (k + k2 - 1) default then compAt l (k + k2) else compAt l (k + k2) ++ [l.getD (k + k2) default] := rfl
              conv => whnf
              refine drawx_plan tab_ok [] (.take 0 (.take 1 (.take 2 (.take 3 (.take 4 (.take 5 (.take 6 (.take 7 (.take 8 (.take 9 .done)))))))))) (by kernel_rfl) (by kernel_rfl) (by kernel_rfl) ?_
              conv => whnf
              refine ⟨by omega, ?_⟩
              conv => whnf
              refine ⟨_, elE arr (k := k + k2) (by omega), ?_⟩
              conv => whnf
              rw [hw2]
              refine ⟨by omega, ?_⟩
              conv => whnf
              refine ⟨_, elE arr (k := k + (k2 - 1)) (by omega), ?_⟩
              conv => whnf
              rw [eqE, i7 (k + k2) (by omega), i7 (k + (k2 - 1)) (by omega), show k + (k2 - 1) = k + k2 - 1 by omega]
              refine And.intro (fun h5 => ?_) (fun h5 => ?_)
              · have h5 : ¬ l.getD (k + k2) default = l.getD (k + k2 - 1) default := by simpa using h5
                rw [if_neg (fun h => h5 h.2)] at hcs
                conv => whnf
                refine ⟨by omega, ?_⟩
                conv => whnf
                refine ⟨_, elE arr (k := k + k2) (by omega), ?_⟩
                conv => whnf
                rw [ham]
                refine ⟨by dsimp only; omega, ?_⟩
                conv => whnf
                refine ⟨_, elE arr (k := kk) (by omega), ?_⟩
                conv => whnf
                rw [i7 (k + k2) (by omega)]
                refine ⟨(k2 + 1, kk + 1, arr.set kk (l.getD (k + k2) default)), ⟨by dsimp only; omega, by dsimp only; omega, by dsimp only; rw [List.length_set, i3], by dsimp only; omega, by dsimp only; omega, ?_, fun j hj => ?_⟩, by dsimp only; omega, rfl, ?_⟩
                · dsimp only
                  rw [show k + (k2 + 1) = k + k2 + 1 by omega, hcs, ← i6, take_snocE default (by rw [List.length_set]; omega), List.take_set_of_le (Nat.le_refl _)]
                  congr 2
                  rw [List.getD_eq_getElem?_getD, List.getElem?_set_self (by omega)]; rfl
                · dsimp only at hj ⊢
                  rw [List.getD_eq_getElem?_getD, List.getElem?_set_ne (by omega), ← List.getD_eq_getElem?_getD]
                  exact i7 j (by omega)
                refine ⟨?_, ?_, rfl⟩ <;> repeat' (first | exact trivial | exact entV_refl _ | exact entLL_refl _ | exact wrap_succ (k := kk) (by omega) | exact wrap_succ (k := k2) (by omega) | exact entLL_of_eq (by rw [List.map_set]; rfl) | rfl | apply And.intro)
                all_goals trace_state
              · have h5 : l.getD (k + k2) default = l.getD (k + k2 - 1) default := by simpa using h5
                rw [if_pos ⟨by omega, h5⟩] at hcs
                conv => whnf
                refine ⟨(k2 + 1, kk, arr), ⟨by dsimp only; omega, by dsimp only; omega, i3, i4, by dsimp only; omega, ?_, fun j hj => i7 j (by dsimp only at hj; omega)⟩, by dsimp only; omega, rfl, ?_⟩
                · dsimp only
                  rw [show k + (k2 + 1) = k + k2 + 1 by omega, hcs]; exact i6
                refine ⟨?_, ?_, rfl⟩ <;> repeat' (first | exact trivial | exact entV_refl _ | exact entLL_refl _ | exact wrap_succ (by omega) | rfl | apply And.intro)
            · have h4 : k + k2 = l.length := by simp at h4; omega
              rw [h4] at i6
              conv => whnf
              refine opx_cut tab_ok kk l.length rfl rfl rfl rfl rfl rfl (.inr ⟨_, rfl⟩) (.inl ⟨rfl, ham.symm⟩) ⟨by omega, by rw [ham]; omega⟩ ?_
              conv => whnf
              refine opx_clear tab_ok rfl rfl rfl rfl rfl rfl rfl (by rw [ham]; omega) ?_
              conv => whnf
              refine opx_cut tab_ok 0 kk rfl rfl rfl rfl rfl rfl (.inl ⟨rfl, rfl⟩) (.inr ⟨_, rfl⟩) ⟨by omega, by simp [i3]; omega⟩ ?_
              conv => whnf
              have hkl : kk ≤ l.length := by omega
              have hfin : ((arr.map encEg).take kk ++ List.replicate (l.length - kk) [XC.il .i64 0, XC.il .i64 0]).take kk = (compL l).map encEg := by
                rw [List.take_append_of_le_length (by rw [List.length_take, ham]; omega), List.take_take, Nat.min_self, ← List.map_take, i6]
                rfl
              refine mt_cut (v := .c (.ow 0)) (hs' := [rowE (compL l)]) (fx := []) (h := [.row 64 2 ((arr.map encEg).take kk ++ List.replicate (l.length - kk) [XC.il .i64 0, XC.il .i64 0]), .held vs []]) 0 kk 2 rfl (by simp [i3]; omega) ?_
              rw [hfin]
              conv => whnf
              refine mt_done (v := .c (.ow 0)) (hs' := [rowE (compL l)]) (fx := []) (x := .c (.ow 0)) (h := [rowE (compL l), .held vs []]) (ys := []) [0] 1 rfl rfl rfl rfl rfl (entV_refl _) trivial ?_
              repeat' (first | exact trivial | exact entLL_refl _ | rfl | apply And.intro)
        · have h3 : ¬ l.getD k default = l.getD (k - 1) default := of_decide_eq_false h3
          conv => whnf
          refine ⟨k + 1, ⟨by omega, by omega, ?_⟩, by omega, rfl, ?_⟩
          · show (if 1 ≤ k ∧ l.getD k default = l.getD (k - 1) default then compAt l k else compAt l k ++ [l.getD k default]) = _
            rw [if_neg (fun h => h3 h.2), hc, take_snocE default h2]
          refine ⟨?_, ?_, rfl⟩ <;> repeat' (first | exact trivial | exact entV_refl _ | exact entLL_refl _ | exact wrap_succ (by omega) | rfl | apply And.intro)
      · have h2 : k = l.length := by simp at h2; omega
        subst h2
        conv => whnf
        rw [show compL l = l from hc.trans (List.take_length ..)]
        refine mt_done (v := .c (.ow 0)) (hs' := [rowE l]) (fx := []) (x := .c (.ow 0)) (h := [rowE l, .held vs []]) (ys := []) [0] 1 rfl rfl rfl rfl rfl (entV_refl _) trivial ?_
        repeat' (first | exact trivial | exact entLL_refl _ | rfl | apply And.intro)
        all_goals trace_state
end Go.Proofs.Ytehbalkhboedeaa

/- Rows of edges: what sorts them. -/
namespace Go.Proofs.Ytehbalkhboedeaa
open Go Go.Shelf Go.RowKit Go.Lib Go.Sort Go.Proofs
set_option maxRecDepth 100000
set_option linter.unusedVariables false
def encV (x : Eg) : List Value := [.int .i64 x.fr, .int .i64 x.to]
def ltE (x y : Eg) : Bool := decide (x.fr < y.fr ∨ (x.fr = y.fr ∧ x.to < y.to))
def cfE (x y : Eg) : Int := if x = y then 0 else if ltE x y = true then -1 else 1
end Go.Proofs.Ytehbalkhboedeaa

/- Rows of edges: the library's sort by a function, as this program bears it. -/
namespace Go.Proofs
open Go.Shelf
shelf_lay_g SlLaysF0.n6 Slsf 6 at Try 74 as Try.sortEg
end Go.Proofs
namespace Go.Proofs.Ytehbalkhboedeaa
open Go Go.Eng Go.Shelf Go.RowKit Go.Lib Go.Sort Go.Proofs
set_option maxRecDepth 100000
set_option linter.unusedVariables false
set_option linter.unusedSimpArgs false
def sortE (l : List Eg) : List Eg := l.mergeSort fun x y => !ltE y x
theorem ltE_swo : SWO ltE where
  irrefl x := by simp [ltE]
  trans x y z h1 h2 := by simp [ltE] at *; omega
  ntrans x y z h1 h2 := by simp [ltE] at *; omega
theorem ltE_tot (x y : Eg) (h1 : ltE x y = false) (h2 : ltE y x = false) : x = y := by
  simp [ltE] at *; rw [Eg.eq_iff]; omega
theorem relE {E : Env} : ∀ {l : List Eg} {ys : List Value}, RelL E (l.map encEg).flatten ys → ys = (l.map encV).flatten
  | [], [], _ => rfl
  | [], _ :: _, h => h.elim
  | x :: l, [], h => h.elim
  | x :: l, [y], h => h.2.elim
  | x :: l, y :: z :: ys, h => by
    have h1 : y = .int .i64 x.fr := h.1
    have h2 : z = .int .i64 x.to := h.2.1
    rw [h1, h2, relE (l := l) h.2.2]; rfl
theorem relE' {E : Env} : ∀ (l : List Eg), RelL E (l.map encEg).flatten (l.map encV).flatten
  | [] => trivial
  | x :: l => ⟨rfl, rfl, relE' l⟩
theorem stE (l : List Eg) : ∀ x ∈ (l.map encEg).flatten, St x := by
  intro x hx
  simp only [List.mem_flatten, List.mem_map] at hx
  obtain ⟨c, ⟨n, _, rfl⟩, hx⟩ := hx
  simp only [encEg, List.mem_cons, List.not_mem_nil, or_false] at hx
  rcases hx with rfl | rfl <;> trivial
theorem lenV (l : List Eg) : (l.map encV).flatten.length = l.length * 2 := by
  induction l with
  | nil => rfl
  | cons x l ih => simp only [List.map_cons, List.flatten_cons, List.length_append, ih, List.length_cons]; show 2 + _ = _; omega
theorem flatV (l : List Eg) : (flatK encV 2 l.toArray).toList = (l.map encV).flatten := by
  have key : ∀ n, n ≤ l.length → ((List.range (n * 2)).map fun t => (encV l.toArray[t / 2]!)[t % 2]!) = ((l.take n).map encV).flatten := by
    intro n
    induction n with
    | zero => intro _; rfl
    | succ n ih =>
      intro h
      rw [Nat.succ_mul, List.range_succ, List.range_succ, List.map_append, List.map_append, ih (by omega), take_snocE default (by omega), List.map_append, List.flatten_append, List.append_assoc]
      congr 1
      have e1 : n * 2 / 2 = n := by omega
      have e2 : (n * 2 + 1) / 2 = n := by omega
      have e3 : n * 2 % 2 = 0 := by omega
      have e4 : (n * 2 + 1) % 2 = 1 := by omega
      have hg : l.toArray[n]! = l.getD n default := by
        rw [List.getD_eq_getElem?_getD, List.getElem?_eq_getElem (by omega)]
        simp [show n < l.length by omega]
      simp only [List.map_cons, List.map_nil, e1, e2, e3, e4, hg, List.flatten_cons, List.flatten_nil, List.append_nil]
      rfl
  have := key l.length (Nat.le_refl _)
  rw [List.take_length] at this
  rw [← this]
  simp [flatK]
theorem heap_sortedV {w : World} {g n : Nat} {os : Array Obj} {cur : Array Value} {e : TypeId} {fr : Nat × Nat} (d : Array Value) (hb : w.heap[g]? = some (.cells cur e fr)) :
    (grow (putRow id (Sort.ahead w n) g 0 d) os).heap[g]? = some (.cells (putCells id 0 d cur) e fr) := by
  have hg : g < w.heap.size := (Array.getElem?_eq_some_iff.1 hb).1
  rw [heap_grow_old _ _ (by simpa using hg)]
  simp [putRow, mapBlock, Sort.ahead, Array.getElem?_modify, hb, onCells]
theorem grownBy_sortedV {w : World} {g n : Nat} {os : Array Obj} (d : Array Value) : w.grownBy (grow (putRow id (Sort.ahead w n) g 0 d) os) (some g) := by
  refine ⟨rfl, rfl, rfl, by simp, fun k hk hne => ?_⟩
  rw [heap_grow_old _ _ (by simpa using hk)]
  have : g ≠ k := fun e => hne (by rw [e])
  simp [putRow, mapBlock, Sort.ahead, Array.getElem?_modify, this]
theorem take_putCellsV (cur : Array Value) (ts : List Value) (h : ts.length ≤ cur.size) : (putCells id 0 ts.toArray cur).toList.take ts.length = ts := by
  apply List.ext_getElem?
  intro j
  by_cases hj : j < ts.length
  · rw [List.getElem?_take_of_lt hj, Array.getElem?_toList]
    simp [putCells, hj, show j < cur.size by omega]
  · rw [List.getElem?_take_eq_none (by omega), List.getElem?_eq_none (by omega)]
theorem sortE_m {P : Program} {f : FuncId} {e : TypeId} (g : Nat) (hok : FnOk P f)
    (h1 : ∀ (blk cap : Nat) (l : List Eg) (w : World), HoldsK encV 2 w blk 0 l.toArray → blk < w.heap.size → l.length < 4611686018427387904 → Calls P f #[.slice (some ⟨blk, 0, none⟩) l.length cap, .func (.func g) #[] #[]] w fun e w' => e = .returned (.tuple #[]) ∧ ∃ n os, w' = sortWorldK encV 2 w blk 0 n (sortE l).toArray os)
    (h0 : ∀ (p : Option Addr) (cap : Nat) (w : World), Calls P f #[.slice p 0 cap, .func (.func g) #[] #[]] w fun e w' => e = .returned (.tuple #[]) ∧ w' = w)
    (l : List Eg) (hz : l.length < 4611686018427387904) (fx : List XC) : FnM P f [.c (.ow 0), .c (.v (.func (.func g) #[] #[]))] [.row e 2 (l.map encEg)] fx (.t []) [.row e 2 ((sortE l).map encEg)] := by
  refine ⟨hok, fun w0 F E w us vs hp hr hfx => ?_⟩
  obtain ⟨ys, hown, hrel, hlen, hst⟩ := hp.ok 0 _ rfl
  obtain rfl := relE hrel
  match us, hr with
  | [v, fv], ⟨hv, hfv, _⟩ =>
  have hfv : fv = .func (.func g) #[] #[] := hfv.1
  subst hfv
  obtain ⟨_, hv, _⟩ : 0 < E.n ∧ v = E.sl 0 ∧ v.oneCell' = true := hv
  subst hv
  obtain ⟨hn, hown⟩ := hown
  rw [List.length_map] at hown
  rcases hown with ⟨hs0, hn0⟩ | ⟨b, cap, cur, hs, hg0, hb, hnc, hcm, hsz, htk⟩
  · have hz0 : l = [] := List.length_eq_zero_iff.1 (by simpa using hn0)
    subst hz0
    rw [hs0]
    refine (h0 none 0 w).mono fun e w' ⟨he, hw⟩ => ?_
    subst hw
    have e0 : sortE [] = [] := by simp [sortE]
    exact ⟨_, E, he, by rw [e0]; exact hp, tup0, hfx⟩
  · rw [hs]
    have hH : HoldsK encV 2 w b 0 l.toArray := by
      intro j hj
      have hj' : j < l.length * 2 := by simpa using hj
      refine ⟨?_, by simp [World.frozen?, hb]⟩
      have h1 : (cur.toList.take (l.length * 2))[j]? = ((l.map encV).flatten)[j]? := by rw [htk]
      rw [List.getElem?_take_of_lt hj', ← flatV l] at h1
      simp only [World.cell?, hb, Nat.zero_add]
      simp only [Option.isSome_none, Bool.false_eq_true, if_false]
      rw [← Array.getElem?_toList, h1, Array.getElem?_toList]
      simp [hj']
    have hlt : b < w.heap.size := (Array.getElem?_eq_some_iff.1 hb).1
    refine (h1 b cap l w hH hlt hz).mono fun e2 w' ⟨he, n, os, hw⟩ => ?_
    refine ⟨_, E, he, ?_, tup0, hfx⟩
    have hw : w' = grow (putRow id (Sort.ahead w n) b 0 (flatK encV 2 (sortE l).toArray)) os := hw
    have hfl : flatK encV 2 (sortE l).toArray = ((sortE l).map encV).flatten.toArray := by rw [← flatV]
    rw [hfl] at hw
    subst hw
    have hlen2 : (sortE l).length = l.length := List.length_mergeSort ..
    have hlv := lenV (sortE l)
    have hgb := grownBy_sortedV (w := w) (g := b) (n := n) (os := os) ((sortE l).map encV).flatten.toArray
    have hsl : ∀ c, Ow E 0 (.row e 2 (l.map encEg)) c ↔ c = b := fun c => by
      show (E.sl 0).ownBlock = some c ↔ _
      rw [hs]
      simp only [Value.ownBlock, Option.some.injEq]
      exact eq_comm
    have hsl2 : ∀ c, Ow E 0 (.row e 2 ((sortE l).map encEg)) c ↔ c = b := hsl
    refine hp.turnTo (it := 0) (x := .row e 2 (l.map encEg)) (y := .row e 2 ((sortE l).map encEg)) (E' := E) rfl hgb.size hgb.os hgb.tape hgb.output (fun c hb2 hno => hgb.block c hb2 (fun e => hno ((hsl c).2 (by simpa using e)))) rfl rfl rfl (fun _ _ => rfl) (fun _ _ => rfl) (fun c hb2 => ?_) ?_
    · have := (hsl2 c).1 hb2
      subst this
      exact ⟨.inl ((hsl c).2 rfl), Nat.lt_of_lt_of_le hlt hgb.size⟩
    · refine ⟨((sortE l).map encV).flatten, ?_, relE' _, fun l hl => ?_, stE _⟩
      · rw [List.length_map, hs]
        refine ⟨by rw [hlv], .inr ⟨b, cap, _, ?_, hg0, heap_sortedV _ hb, by rw [hlen2]; exact hnc, hcm, by simp [putCells, hsz], ?_⟩⟩
        · rw [hlen2]
        · rw [← hlv]; exact take_putCellsV cur _ (by rw [hlv, hlen2, hsz]; exact Nat.mul_le_mul_right 2 hnc)
      · obtain ⟨m, _, rfl⟩ := List.mem_map.1 hl
        rfl
theorem ltOf_cfE : ltOf cfE = ltE := by
  funext x y
  unfold ltOf cfE
  by_cases h : x = y
  · subst h; simp [ltE]
  · rw [if_neg h]
    by_cases h2 : ltE x y = true <;> simp [h2]
theorem encV_one (x : Eg) : ∀ v ∈ encV x, v.oneCell' = true := fun v hv => by
  simp only [encV, List.mem_cons, List.not_mem_nil, or_false] at hv
  rcases hv with rfl | rfl <;> rfl
theorem aggE (w : World) : (isAgg 64).run Try.prog w = .ok true w := run_isAggT (TIs.of (tab_ok _ _ (show tabGet tab 64 = _ from rfl))) w
theorem sizeE (w : World) : (Go.sizeOf 64).run Try.prog w = .ok 2 w := run_size (TIs.of (tab_ok _ _ (show tabGet tab 64 = _ from rfl))) w
end Go.Proofs.Ytehbalkhboedeaa

/- Rows of edges: the sort by history's order. -/
namespace Go.Proofs.Ytehbalkhboedeaa
open Go Go.Eng Go.Shelf Go.RowKit Go.Lib Go.Sort Go.Proofs
set_option maxRecDepth 100000
set_option linter.unusedVariables false
set_option linter.unusedSimpArgs false
def cfH (x y : Eg) : Int := if ltE x y = true then -1 else 1
theorem ltOf_cfH : ltOf cfH = ltE := by
  funext x y
  unfold ltOf cfH
  by_cases h2 : ltE x y = true <;> simp [h2]
end Go.Proofs.Ytehbalkhboedeaa
