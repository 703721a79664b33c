/- Numbers: small sums. Nothing of any program is proved here. -/
import Derived.Test.YtehbalkhboedeaaEngX
namespace Go.Eng
open Go Go.RowKit
theorem wrap_ok {n : Int} (h0 : -4611686018427387904 ≤ n) (h1 : n ≤ 4611686018427387904) : IntKind.i64.wrap n = n := by
  rw [IntKind.wrap_i64]; omega
theorem wrap_succ {k : Nat} (h : k ≤ 1000000000) : IntKind.i64.wrap ((k : Int) + 1) = ((k + 1 : Nat) : Int) := by
  rw [IntKind.wrap_i64]; omega
theorem getD_big {l : List Int} {k : Nat} (h : l.length ≤ k) : l.getD k 0 = 0 := by
  rw [List.getD_eq_getElem?_getD, List.getElem?_eq_none h]; rfl
theorem foldl_take_succ {α β : Type} (f : β → α → β) (b : β) (d : α) : ∀ (l : List α) (k : Nat), k < l.length → (l.take (k + 1)).foldl f b = f ((l.take k).foldl f b) (l.getD k d) := by
  intro l k hk
  rw [List.take_succ_eq_append_getElem hk, List.foldl_append, List.getD_eq_getElem?_getD, List.getElem?_eq_getElem hk]; rfl
theorem map_take_succ {α β : Type} (f : α → β) (d : α) (l : List α) (k : Nat) (hk : k < l.length) : (l.take (k + 1)).map f = (l.take k).map f ++ [f (l.getD k d)] := by
  rw [List.take_succ_eq_append_getElem hk, List.map_append, List.getD_eq_getElem?_getD, List.getElem?_eq_getElem hk]; rfl
theorem take_succ_snoc {α : Type} (d : α) (l : List α) (k : Nat) (hk : k < l.length) : l.take (k + 1) = l.take k ++ [l.getD k d] := by
  rw [List.take_succ_eq_append_getElem hk, List.getD_eq_getElem?_getD, List.getElem?_eq_getElem hk]; rfl
/-- A map that says the same. -/
theorem mapA_le {ag : Bool} {ks : List IntKind} {va : Bool} {vz : Nat} {dom dom' : List (List Int)} {val val' : List Int → List XC} (hd : dom = dom') (hv : ∀ k ∈ dom, val' k = val k) : ∀ bs v S w, (MapA ag ks va vz dom val).is bs v S w → (MapA ag ks va vz dom' val').is bs v S w := by
  rintro bs v S w ⟨b, es, clock, h1, h2, h3, h4, h5⟩
  subst hd
  exact ⟨b, es, clock, h1, h2, h3, h4.mono hv, h5⟩
/-- A contract that asks for less. -/
theorem Fn.ask {P : Program} {f : FuncId} {xs xs' : List XV} {R : XV → List It → Prop} (hf : Fn P f xs' R) (he : entVs xs xs') : Fn P f xs R :=
  ⟨hf.ok, fun bs w us hbs hr => hf.run bs w us hbs (entVs_rel he hr)⟩
theorem getD_range {α : Type} {g : Nat → α} {n i : Nat} {d : α} (h : i < n) : ((List.range n).map g).getD i d = g i := by
  rw [List.getD_eq_getElem?_getD]; simp [h]
/-- Numbers, as a list. -/
abbrev listI (n : Nat) (g : Nat → Int) : List Int := (List.range n).map g
theorem ints_of {n : Nat} {g : Nat → Int} : entV (.c (.rs n 1 fun i _ => .i .i64 (g i))) (.c (intsX (listI n g))) :=
  ⟨by simp, rfl, fun i hi j hj => by refine entC_of_eq ?_; show XC.i _ _ = XC.i _ _; rw [getD_range (by simpa using hi)]⟩
theorem bytes_of {n : Nat} {g : Nat → Int} : entV (.c (.rs n 1 fun i _ => .i .u8 (g i))) (.c (bytesX (listI n g))) :=
  ⟨by simp, rfl, fun i hi j hj => by refine entC_of_eq ?_; show XC.i _ _ = XC.i _ _; rw [getD_range (by simpa using hi)]⟩
theorem rows_of {α : Type} {enc : α → List XC} {d : α} {z n : Nat} {f : Nat → Nat → XC} {g : Nat → α} (h : ∀ i, i < n → ∀ j, j < z → entC (f i j) (nthC (enc (g i)) j)) : entV (.c (.rs n z f)) (.c (rowX enc d z ((List.range n).map g))) :=
  ⟨by simp, rfl, fun i hi j hj => by
    have hi : i < n := by simpa using hi
    show entC (f i j) (nthC (enc (((List.range n).map g).getD i d)) j)
    rw [getD_range hi]; exact h i hi j hj⟩
def encE (e : Int × Int) : List XC := [.i .i64 e.1, .i .i64 e.2]
abbrev edgesX (l : List (Int × Int)) : XC := rowX encE (0, 0) 2 l
end Go.Eng
