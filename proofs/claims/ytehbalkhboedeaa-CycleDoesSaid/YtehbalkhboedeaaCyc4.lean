/- Who is reached: the program's way. -/
import Derived.Test.YtehbalkhboedeaaCyc3
import Derived.Test.YtehbalkhboedeaaKeys
import Derived.Test.YtehbalkhboedeaaEngGs
namespace Go.Proofs.Ytehbalkhboedeaa
open Go Go.Eng Go.RowKit
set_option maxRecDepth 100000
set_option maxHeartbeats 4000000
set_option linter.unusedVariables false
set_option linter.unusedSimpArgs false
theorem from_own (l : List Eg) (a : Int) (hl : l.length ≤ 1000000) : FnM Try.prog 38 [.c (egsX l), .c (.i .i64 a)] [] [] (.c (.ow 0)) [rowI 3 (fromL l a)] := by
  refine FnM.of tab_ok Try.func38 (by kernel_rfl) (by kernel_rfl) (fun vs => ?_)
  conv => whnf
  refine callx_tells (gsort_fn l hl) rfl trivial ?_
  conv => whnf
  have hml := unqE_len l
  show LoopX _ _ _ _ _
  have e : fromL l a = tosOf (unqE l) a := rfl
  rw [e]
  generalize unqE l = m at *
  refine loopx_nil 5 3 1 rfl ?_
  conv => whnf
  refine loopi tab_ok (fun k => k ≤ m.length) (fun k => [(1, .c (.i .i64 a)), (5, .c (.ow 1)), (9, .c (egsX m)), (10, .c (.i .i64 m.length)), (11, .c (.i .i64 k))]) (fun k => [.held vs [], rowI 3 (tosOf (m.take k) a)]) (fun k => m.length - k) 0 _ rfl (Nat.zero_le _) ?_ (fun k hk => ?_)
  · refine ⟨?_, ?_, rfl⟩ <;> repeat' (first | exact trivial | exact entV_refl _ | exact entLL_refl _ | exact ⟨rfl, rfl⟩ | exact ⟨rfl, trivial⟩ | rfl | apply And.intro)
  · conv => whnf
    have hel := tosOf_len (m.take k) a
    have htl : (m.take k).length = k := by rw [List.length_take]; omega
    refine And.intro (fun h1 => ?_) (fun h1 => ?_)
    · have h1 : k < m.length := by simp at h1; omega
      have htk : m.take (k + 1) = m.take k ++ [m.getD k default] := take_snocE default h1
      conv => whnf
      refine ⟨by omega, ?_⟩
      conv => whnf
      rw [Int.toNat_natCast]
      generalize m.getD k default = d at *
      refine And.intro (fun h2 => ?_) (fun h2 => ?_)
      · have h2 : d.fr = a := by simpa using h2
        conv => whnf
        refine ⟨by simp only [List.length_map, List.length_cons, List.length_nil]; omega, ?_⟩
        conv => whnf
        refine ⟨k + 1, by omega, by omega, rfl, ?_⟩
        rw [htk, tosOf_snoc, if_pos h2]
        refine ⟨?_, ?_, rfl⟩ <;> repeat' (first | exact trivial | exact entV_refl _ | exact ⟨rfl, trivial⟩ | exact wrap_succ (by omega) | exact entLL_of_eq (by rw [List.map_append]; rfl) | rfl | apply And.intro)
      · have h2 : ¬ d.fr = a := by simpa using h2
        conv => whnf
        refine ⟨k + 1, by omega, by omega, rfl, ?_⟩
        rw [htk, tosOf_snoc, if_neg h2]
        refine ⟨?_, ?_, rfl⟩ <;> repeat' (first | exact trivial | exact entV_refl _ | exact ⟨rfl, trivial⟩ | exact wrap_succ (by omega) | exact entLL_refl _ | rfl | apply And.intro)
    · have h1 : k = m.length := by simp at h1; omega
      subst h1
      rw [List.take_length]
      conv => whnf
      refine mt_done (v := .c (.ow 0)) (hs' := [rowI 3 (tosOf m a)]) (fx := []) (x := .c (.ow 1)) (h := [.held vs [], rowI 3 (tosOf m a)]) (ys := []) [1] 0 rfl rfl rfl rfl rfl (entV_refl _) trivial ?_
      repeat' (first | exact trivial | exact entLL_refl _ | rfl | apply And.intro)
theorem rowsI_all (l : List Int) : rowsOf l.length 1 (fun i _ => XC.i .i64 (l.getD i 0)) = l.map fun n => [XC.i .i64 n] := by
  have := rowsOf_take l l.length (Nat.le_refl _)
  rw [List.take_length, Int.toNat_natCast] at this
  exact this
/-- A closure over one pointer, by other numbers. -/
theorem ent_fn1 {f a b : Nat} {σ : Nat → Nat} (h : σ b = a) : entV (.c (.fn f 1 (nthC [.p a 0]))) (renV σ (.c (.fn f 1 (nthC [.p b 0])))) := by
  refine .inr ?_
  show XC.fn f 1 (nthC [.p a 0]) = XC.fn f 1 fun j => renC σ (nthC [.p b 0] j)
  congr 1
  funext j
  cases j with
  | zero => show XC.p a 0 = XC.p (σ b) 0; rw [h]
  | succ j => rfl
def keysI (dom : List Int) : List (List Int) := dom.map fun x => [x]
theorem keysI_mem (dom : List Int) (x : Int) : [x] ∈ keysI dom ↔ x ∈ dom := by simp [keysI]
theorem keysI_head (dom : List Int) : (keysI dom).map (fun k => k.headD 0) = dom := by simp [keysI, Function.comp_def]
theorem keysI_snoc (dom : List Int) (x : Int) (h : x ∉ dom) : insD (keysI dom) [x] = keysI (dom ++ [x]) := by
  rw [insD, if_neg (fun hx => h ((keysI_mem dom x).1 hx))]; simp [keysI]
/-- What the walk knows of the stack and of whom it has met. -/
structure RInv (l : List Eg) (a : Int) (st dom : List Int) : Prop where
  inSt : ∀ x ∈ st, Rc l a x
  inDom : ∀ x ∈ dom, Rc l a x
  fst : ∀ y, (⟨a, y⟩ : Eg) ∈ l → y ∈ dom ∨ y ∈ st
  nxt : ∀ x ∈ dom, ∀ y, (⟨x, y⟩ : Eg) ∈ l → y ∈ dom ∨ y ∈ st
  nd : dom.Nodup
  len : st.length ≤ (dom.length + 1) * l.length
theorem RInv.start (l : List Eg) (a : Int) : RInv l a (fromL l a) [] :=
  ⟨fun x h => .one ((from_mem l a x).1 h), by simp, fun y h => .inr ((from_mem l a y).2 h), by simp, List.nodup_nil, by simpa using from_len l a⟩
theorem RInv.done {l : List Eg} {a : Int} {dom : List Int} (h : RInv l a [] dom) : sortL dom = reachL l a := by
  refine reach_of h.nd fun x => ⟨h.inDom x, fun hx => ?_⟩
  induction hx with
  | one e => exact (h.fst _ e).elim id (fun h => by simp at h)
  | more _ e ih => exact (h.nxt _ ih _ e).elim id (fun h => by simp at h)
theorem RInv.skip {l : List Eg} {a x : Int} {st dom : List Int} (h : RInv l a (st ++ [x]) dom) (hx : x ∈ dom) : RInv l a st dom :=
  ⟨fun y hy => h.inSt y (by simp [hy]), h.inDom, fun y e => by
    rcases h.fst y e with h1 | h1
    · exact .inl h1
    · rcases List.mem_append.1 h1 with h2 | h2
      · exact .inr h2
      · rw [List.mem_singleton.1 h2]; exact .inl hx, fun z hz y e => by
    rcases h.nxt z hz y e with h1 | h1
    · exact .inl h1
    · rcases List.mem_append.1 h1 with h2 | h2
      · exact .inr h2
      · rw [List.mem_singleton.1 h2]; exact .inl hx, h.nd, by have := h.len; simp at this; omega⟩
theorem RInv.more {l : List Eg} {a x : Int} {st dom : List Int} (h : RInv l a (st ++ [x]) dom) (hx : x ∉ dom) : RInv l a (st ++ fromL l x) (dom ++ [x]) := by
  have hax : Rc l a x := h.inSt x (by simp)
  refine ⟨fun y hy => ?_, fun y hy => ?_, fun y e => ?_, fun z hz y e => ?_, List.nodup_append.2 ⟨h.nd, by simp, by simp; exact fun y hy e => hx (e ▸ hy)⟩, ?_⟩
  · rcases List.mem_append.1 hy with h1 | h1
    · exact h.inSt y (by simp [h1])
    · exact .more hax ((from_mem l x y).1 h1)
  · rcases List.mem_append.1 hy with h1 | h1
    · exact h.inDom y h1
    · rw [List.mem_singleton.1 h1]; exact hax
  · rcases h.fst y e with h1 | h1
    · exact .inl (by simp [h1])
    · rcases List.mem_append.1 h1 with h2 | h2
      · exact .inr (by simp [h2])
      · exact .inl (by simp [List.mem_singleton.1 h2])
  · rcases List.mem_append.1 hz with h0 | h0
    · rcases h.nxt z h0 y e with h1 | h1
      · exact .inl (by simp [h1])
      · rcases List.mem_append.1 h1 with h2 | h2
        · exact .inr (by simp [h2])
        · exact .inl (by simp [List.mem_singleton.1 h2])
    · rw [List.mem_singleton.1 h0] at e
      exact .inr (List.mem_append.2 (.inr ((from_mem l x y).2 e)))
  · have h1 := h.len
    have h2 := from_len l x
    simp only [List.length_append, List.length_cons, List.length_nil] at h1 ⊢
    simp only [Nat.add_mul, Nat.zero_add, Nat.one_mul] at h1 ⊢
    omega
theorem RInv.room {l : List Eg} {a : Int} {st dom : List Int} (h : RInv l a st dom) : dom.length ≤ (nodesL l).length := nodup_le h.nd fun x hx => (h.inDom x hx).to_node
theorem RInv.room' {l : List Eg} {a x : Int} {st dom : List Int} (h : RInv l a (st ++ [x]) dom) (hx : x ∉ dom) : dom.length < (nodesL l).length :=
  nodup_lt h.nd (fun x hx => (h.inDom x hx).to_node) (h.inSt x (by simp)).to_node hx
def muR (l : List Eg) (st dom : List Int) : Nat := ((nodesL l).length - dom.length) * (l.length + 1) + st.length
theorem muR_more {l : List Eg} {a x : Int} {st dom : List Int} (h : RInv l a (st ++ [x]) dom) (hx : x ∉ dom) : muR l (st ++ fromL l x) (dom ++ [x]) < muR l (st ++ [x]) dom := by
  have h1 := h.room' hx
  have h2 := from_len l x
  unfold muR
  simp only [List.length_append, List.length_cons, List.length_nil]
  obtain ⟨k, hk⟩ : ∃ k, (nodesL l).length - dom.length = k + 1 := ⟨(nodesL l).length - dom.length - 1, by omega⟩
  rw [hk, show (nodesL l).length - (dom.length + (0 + 1)) = k by omega, Nat.add_mul]
  omega
theorem snoc_of {st : List Int} (h : st ≠ []) : ∃ s x, st = s ++ [x] := ⟨st.dropLast, st.getLast h, (List.dropLast_concat_getLast h).symm⟩
theorem reach_fn (l : List Eg) (a : Int) (hl : l.length ≤ 1000) (hwf : ∀ e ∈ l, (Lit.int .i64 e.to).wf = true) : Eng.Fn Try.prog 26 [.c (egsX l), .c (.i .i64 a)] (Tells (.c (intsX (reachL l a)))) := by
  refine Eng.Fn.ofZ tab_ok Try.func26 (by kernel_rfl) (by kernel_rfl) trivial (fun w0 => ?_)
  conv => whnf
  refine scopel tab_ok 0 rfl (fun (i : List Int × List Int) => RInv l a i.1 i.2) (fun i => [(0, .c (egsX l)), (5, .c (.ow 0)), (6, .c (.ow 1))]) (fun i => [.abs (MapA false [.i64] false 1 (keysI i.2) (fun _ => [.bt])), rowI 3 i.1]) (fun i => muR l i.1 i.2) 40 ?_ (fun i hi => ?_)
  · conv => whnf
    refine opx_makeMap false [.i64] false 1 (fun _ => [.bt]) ?_
    conv => whnf
    refine callx_m (from_own l a (by omega)) [] (by kernel_rfl) ⟨entV_refl _, entV_refl _, trivial⟩ trivial ?_
    conv => whnf
    refine labx_go ⟨(fromL l a, []), RInv.start l a, rfl, ?_⟩
    refine ⟨?_, ?_, rfl⟩ <;> repeat' (first | exact trivial | exact entV_refl _ | exact entLL_refl _ | exact ⟨rfl, rfl⟩ | exact (fun _ _ _ _ h => h) | apply And.intro)
  · obtain ⟨st, dom⟩ := i
    have hi : RInv l a st dom := hi
    have hroom := hi.room
    have hnl := nodes_len l
    have hsl := hi.len
    have hmul : (dom.length + 1) * l.length ≤ 2001 * 1000 := Nat.mul_le_mul (by omega) hl
    conv => whnf
    refine And.intro (fun h1 => ?_) (fun h1 => ?_)
    · have h1 : st = [] := List.length_eq_zero_iff.1 (by simpa using h1)
      subst h1
      conv => whnf
      refine callx_inline tab_ok Try.func49 (by kernel_rfl) (by kernel_rfl) (fun vs => ?_)
      conv => whnf
      have hkw : ∀ k ∈ keysI dom, (Lit.int .i64 (k.headD 0)).wf = true := fun k hk => by
        obtain ⟨x, hx, rfl⟩ := List.mem_map.1 hk
        have := hi.inDom x hx
        cases this with
        | one h => exact hwf _ h
        | more _ h => exact hwf _ h
      refine ⟨rfl, ?_⟩
      conv => whnf
      refine callx_m (keysMet_m (va := false) (vz := 1) (val := fun _ => [.bt]) (dom := keysI dom) (by rw [keysI, List.length_map]; omega) hkw [.ow 0] 90) [0, 3] (by kernel_rfl) ⟨ent_fn1 rfl, trivial⟩ ?_ ?_
      · repeat' (first | exact trivial | exact ⟨rfl, rfl⟩ | exact entL_refl _ | exact (fun _ _ _ _ h => h) | rfl | apply And.intro)
      conv => whnf
      rw [keysI_head, hi.done]
      exact ints_ent2 (entLL_refl _)
    · have h1 : st ≠ [] := fun e => by subst e; simp at h1
      obtain ⟨s, x, rfl⟩ := snoc_of h1
      have hw : IntKind.i64.wrap ((((s ++ [x]).map (fun n => [XC.i IntKind.i64 n])).length : Int) - 1) = (s.length : Int) := by
        rw [wrap_ok (by simp only [List.length_map, List.length_append, List.length_cons, List.length_nil]; omega) (by simp only [List.length_map, List.length_append, List.length_cons, List.length_nil] at hsl ⊢; omega)]; simp only [List.length_map, List.length_append, List.length_cons, List.length_nil]; omega
      have hx : ((s ++ [x]).map (fun n => [XC.i IntKind.i64 n]))[s.length]? = some [.i .i64 x] := by simp
      have htk : ((s ++ [x]).map (fun n => [XC.i IntKind.i64 n])).take s.length = s.map (fun n => [XC.i IntKind.i64 n]) := by
        rw [← List.map_take]; simp
      conv => whnf
      rw [hw]
      refine ⟨by simp only [List.length_map, List.length_append, List.length_cons, List.length_nil]; omega, ?_⟩
      conv => whnf
      refine ⟨_, hx, ?_⟩
      conv => whnf
      refine opx_shorten tab_ok s.length rfl rfl rfl rfl rfl rfl ⟨_, congrArg (fun i => some (some (false, i))) hw⟩ (by simp) ?_
      rw [htk]
      conv => whnf
      refine opx_lookup tab_ok rfl rfl rfl rfl rfl rfl rfl (fun h2 => ?_) (fun h2 => ?_)
      · have h2 : x ∈ dom := (keysI_mem dom x).1 h2
        conv => whnf
        refine ⟨(s, dom), hi.skip h2, by simp [muR], rfl, ?_⟩
        refine ⟨?_, ?_, rfl⟩ <;> repeat' (first | exact trivial | exact entV_refl _ | exact entLL_refl _ | exact ⟨rfl, rfl⟩ | exact (fun _ _ _ _ h => h) | apply And.intro)
      · have h2 : x ∉ dom := fun h => h2 ((keysI_mem dom x).2 h)
        conv => whnf
        refine opx_update tab_ok rfl rfl rfl rfl rfl rfl rfl rfl rfl ?_
        conv => whnf
        refine callx_tells (from_fn l x (by omega)) rfl trivial ?_
        conv => whnf
        have hfl := from_len l x
        rw [rowsI_all]
        refine ⟨by simp only [List.length_map, List.length_append, List.length_cons, List.length_nil] at hsl ⊢; omega, ?_⟩
        conv => whnf
        refine ⟨(s ++ fromL l x, dom ++ [x]), hi.more h2, muR_more hi h2, rfl, ?_⟩
        rw [← keysI_snoc dom x h2]
        refine ⟨?_, ?_, rfl⟩ <;> repeat' (first | exact trivial | exact entV_refl _ | exact ⟨rfl, rfl⟩ | exact mapA_le rfl (fun q _ => by simp only [updV]; split <;> rfl) | apply And.intro)
        exact entLL_of_eq (by rw [← List.map_append])
/-! ### who is on a ring -/
noncomputable def onAt (l : List Eg) (k : Nat) : List Int := ((nodesL l).take k).filter fun x => decide (x ∈ reachL l x)
theorem onAt_all (l : List Eg) : onAt l (nodesL l).length = onL l := by rw [onAt, List.take_length]; rfl
theorem onAt_in {l : List Eg} {k : Nat} (h : k < (nodesL l).length) (hx : (nodesL l).getD k 0 ∈ reachL l ((nodesL l).getD k 0)) : onAt l (k + 1) = onAt l k ++ [(nodesL l).getD k 0] := by
  rw [onAt, take_snocI h, List.filter_append]
  congr 1
  rw [List.filter_cons, if_pos (decide_eq_true hx)]; rfl
theorem onAt_out {l : List Eg} {k : Nat} (h : k < (nodesL l).length) (hx : (nodesL l).getD k 0 ∉ reachL l ((nodesL l).getD k 0)) : onAt l (k + 1) = onAt l k := by
  rw [onAt, take_snocI h, List.filter_append, List.filter_cons, if_neg (by simpa using hx)]
  exact List.append_nil _
theorem onAt_len (l : List Eg) (k : Nat) : (onAt l k).length ≤ (nodesL l).length := Nat.le_trans (List.length_filter_le _ _) (by rw [List.length_take]; omega)
theorem on_fn (l : List Eg) (hl : l.length ≤ 1000) (hwf : ∀ e ∈ l, (Lit.int .i64 e.to).wf = true) : Eng.Fn Try.prog 28 [.c (egsX l)] (Tells (.c (intsX (onL l)))) := by
  refine Eng.Fn.ofZ tab_ok Try.func28 (by kernel_rfl) (by kernel_rfl) trivial (fun w0 => ?_)
  conv => whnf
  refine callx_tells (nodes_fn l (by omega)) rfl trivial ?_
  conv => whnf
  have hnl := nodes_len l
  refine loopx_nil 3 3 1 rfl ?_
  conv => whnf
  refine loopi tab_ok (fun k => k ≤ (nodesL l).length) (fun k => [(0, .c (egsX l)), (3, .c (.ow 0)), (7, .c (intsX (nodesL l))), (8, .c (.i .i64 (nodesL l).length)), (9, .c (.i .i64 k))]) (fun k => [rowI 3 (onAt l k)]) (fun k => (nodesL l).length - k) 0 _ rfl (Nat.zero_le _) ?_ (fun k hk => ?_)
  · refine ⟨?_, ?_, rfl⟩ <;> repeat' (first | exact trivial | exact entV_refl _ | exact entLL_refl _ | exact ⟨rfl, rfl⟩ | rfl | apply And.intro)
  · conv => whnf
    have hel := onAt_len l k
    refine And.intro (fun h1 => ?_) (fun h1 => ?_)
    · have h1 : k < (nodesL l).length := by simp at h1; omega
      have hin := onAt_in h1
      have hout := onAt_out h1
      conv => whnf
      refine ⟨by omega, ?_⟩
      conv => whnf
      rw [Int.toNat_natCast]
      generalize (nodesL l).getD k 0 = x at *
      refine callx_tells (reach_fn l x hl hwf) rfl trivial ?_
      conv => whnf
      have hrl := reach_len l x
      refine callx_tells (contains_fn (reachL l x) x (by omega)) rfl trivial ?_
      conv => whnf
      refine And.intro (fun h2 => ?_) (fun h2 => ?_)
      · have h2 : x ∈ reachL l x := of_decide_eq_true h2
        conv => whnf
        refine ⟨by simp only [List.length_map, List.length_cons, List.length_nil]; omega, ?_⟩
        conv => whnf
        refine ⟨k + 1, by omega, by omega, rfl, ?_⟩
        rw [hin h2]
        refine ⟨?_, ?_, rfl⟩ <;> repeat' (first | exact trivial | exact entV_refl _ | exact wrap_succ (by omega) | exact entLL_of_eq (by rw [List.map_append]; rfl) | rfl | apply And.intro)
      · have h2 : x ∉ reachL l x := of_decide_eq_false h2
        conv => whnf
        refine ⟨k + 1, by omega, by omega, rfl, ?_⟩
        rw [hout h2]
        refine ⟨?_, ?_, rfl⟩ <;> repeat' (first | exact trivial | exact entV_refl _ | exact wrap_succ (by omega) | exact entLL_refl _ | rfl | apply And.intro)
    · have h1 : k = (nodesL l).length := by simp at h1; omega
      subst h1
      conv => whnf
      rw [onAt_all]
      exact ints_ent2 (entLL_refl _)
/-! ### the reference -/
theorem rreach_fn (l : List Eg) (a : Int) (hl : l.length ≤ 500) : Eng.Fn Try.prog 37 [.c (egsX l), .c (.i .i64 a)] (Tells (.c (intsX (reachL l a)))) := by
  refine Eng.Fn.ofZ tab_ok Try.func37 (by kernel_rfl) (by kernel_rfl) trivial (fun w0 => ?_)
  conv => whnf
  refine callx_tells (rfrom_fn l a (by omega)) rfl trivial ?_
  conv => whnf
  refine loopi tab_ok (fun k => k ≤ l.length) (fun k => [(0, .c (egsX l)), (5, .c (intsX (rIt l a k))), (13, .c (.i .i64 l.length)), (14, .c (.i .i64 k))]) (fun k => []) (fun k => l.length - k) 0 _ rfl (Nat.zero_le _) ?_ (fun k hk => ?_)
  · refine ⟨?_, ?_, rfl⟩ <;> repeat' (first | exact trivial | exact entV_refl _ | rfl | apply And.intro)
  · have hrl := rIt_len l a k
    have hst : rIt l a (k + 1) = unqI (rIt l a k ++ (rIt l a k).flatMap (fromL l)) := rfl
    conv => whnf
    refine And.intro (fun h1 => ?_) (fun h1 => ?_)
    · have h1 : k < l.length := by simp at h1; omega
      conv => whnf
      generalize rIt l a k = out at *
      have hfm : ∀ j, (out ++ (out.take j).flatMap (fromL l)).length ≤ out.length + j * l.length := fun j => by
        rw [List.length_append]
        have : ((out.take j).flatMap (fromL l)).length ≤ (out.take j).length * l.length := by
          generalize out.take j = m
          induction m with
          | nil => simp
          | cons x m ih =>
            have := from_len l x
            simp only [List.flatMap_cons, List.length_append, List.length_cons, Nat.add_mul, Nat.one_mul]; omega
        have h2 : (out.take j).length * l.length ≤ j * l.length := Nat.mul_le_mul_right _ (by rw [List.length_take]; omega)
        omega
      refine loopl tab_ok (fun j => j ≤ out.length) (fun j => [(0, .c (egsX l)), (6, .c (intsX (out ++ (out.take j).flatMap (fromL l)))), (13, .c (.i .i64 l.length)), (14, .c (.i .i64 k)), (17, .c (intsX out)), (18, .c (.i .i64 out.length)), (19, .c (.i .i64 j))]) (fun j => []) (fun j => out.length - j) 0 _ rfl (Nat.zero_le _) ?_ (fun j hj => ?_)
      · have h00 : out ++ (out.take 0).flatMap (fromL l) = out := by simp
        refine ⟨?_, ?_, rfl⟩ <;> repeat' (first | exact trivial | exact entV_refl _ | rfl | apply And.intro)
        all_goals rw [h00]
        exact fun _ _ _ _ => entC_refl _
      · conv => whnf
        refine And.intro (fun h2 => ?_) (fun h2 => ?_)
        · have h2 : j < out.length := by simp at h2; omega
          conv => whnf
          refine ⟨by omega, ?_⟩
          conv => whnf
          rw [Int.toNat_natCast]
          have htk : (out.take (j + 1)).flatMap (fromL l) = (out.take j).flatMap (fromL l) ++ fromL l (out.getD j 0) := by
            rw [take_snocI h2]; simp
          have hb := hfm j
          have hmul : j * l.length ≤ 500 * 500 := Nat.mul_le_mul (by omega) hl
          generalize out.getD j 0 = x at *
          have hfl := from_len l x
          generalize hm : out ++ (out.take j).flatMap (fromL l) = more at *
          refine drawx_pure tab_ok (by kernel_rfl) (by kernel_rfl) ?_
          conv => whnf
          refine ⟨by omega, ?_⟩
          conv => whnf
          refine callp_tells (rfrom_fn l x (by omega)) rfl trivial ?_
          conv => whnf
          rw [rowsOf_take more more.length (Nat.le_refl _), List.take_length, rowsI_all]
          refine ⟨by simp only [List.length_map]; omega, ?_⟩
          conv => whnf
          refine labx_go ⟨j + 1, by omega, by omega, rfl, ?_⟩
          rw [htk, ← List.append_assoc, hm]
          refine ⟨?_, ?_, rfl⟩ <;> repeat' (first | exact trivial | exact entV_refl _ | exact wrap_succ (by omega) | exact ints_ent2 (entLL_of_eq (by rw [← List.map_append])) | rfl | apply And.intro)
        · have h2 : j = out.length := by simp at h2; omega
          subst h2
          have hb := hfm out.length
          have hmul : out.length * l.length ≤ 500 * 500 := Nat.mul_le_mul (by omega) hl
          rw [List.take_length] at hb ⊢
          conv => whnf
          refine callx_tells (numbers_fn _ (by omega)) rfl trivial ?_
          conv => whnf
          refine ⟨k + 1, by omega, by omega, rfl, ?_⟩
          rw [hst]
          refine ⟨?_, ?_, rfl⟩ <;> repeat' (first | exact trivial | exact entV_refl _ | exact wrap_succ (by omega) | rfl | apply And.intro)
    · have h1 : k = l.length := by simp at h1; omega
      subst h1
      conv => whnf
      rw [rIt_all]
      exact entV_refl (.c (intsX (reachL l a)))
theorem ron_fn (l : List Eg) (hl : l.length ≤ 500) : Eng.Fn Try.prog 35 [.c (egsX l)] (Tells (.c (intsX (onL l)))) := by
  refine Eng.Fn.ofZ tab_ok Try.func35 (by kernel_rfl) (by kernel_rfl) trivial (fun w0 => ?_)
  conv => whnf
  refine callx_tells (rnodes_fn l (by omega)) rfl trivial ?_
  conv => whnf
  have hnl := nodes_len l
  refine loopx_nil 3 3 1 rfl ?_
  conv => whnf
  refine loopi tab_ok (fun k => k ≤ (nodesL l).length) (fun k => [(0, .c (egsX l)), (3, .c (.ow 0)), (7, .c (intsX (nodesL l))), (8, .c (.i .i64 (nodesL l).length)), (9, .c (.i .i64 k))]) (fun k => [rowI 3 (onAt l k)]) (fun k => (nodesL l).length - k) 0 _ rfl (Nat.zero_le _) ?_ (fun k hk => ?_)
  · refine ⟨?_, ?_, rfl⟩ <;> repeat' (first | exact trivial | exact entV_refl _ | exact entLL_refl _ | exact ⟨rfl, rfl⟩ | rfl | apply And.intro)
  · conv => whnf
    have hel := onAt_len l k
    refine And.intro (fun h1 => ?_) (fun h1 => ?_)
    · have h1 : k < (nodesL l).length := by simp at h1; omega
      have hin := onAt_in h1
      have hout := onAt_out h1
      conv => whnf
      refine ⟨by omega, ?_⟩
      conv => whnf
      rw [Int.toNat_natCast]
      generalize (nodesL l).getD k 0 = x at *
      refine callx_tells (rreach_fn l x hl) rfl trivial ?_
      conv => whnf
      have hrl := reach_len l x
      refine callx_tells (has_fn (reachL l x) x (by omega)) rfl trivial ?_
      conv => whnf
      refine And.intro (fun h2 => ?_) (fun h2 => ?_)
      · have h2 : x ∈ reachL l x := of_decide_eq_true h2
        conv => whnf
        refine ⟨by simp only [List.length_map, List.length_cons, List.length_nil]; omega, ?_⟩
        conv => whnf
        refine ⟨k + 1, by omega, by omega, rfl, ?_⟩
        rw [hin h2]
        refine ⟨?_, ?_, rfl⟩ <;> repeat' (first | exact trivial | exact entV_refl _ | exact wrap_succ (by omega) | exact entLL_of_eq (by rw [List.map_append]; rfl) | rfl | apply And.intro)
      · have h2 : x ∉ reachL l x := of_decide_eq_false h2
        conv => whnf
        refine ⟨k + 1, by omega, by omega, rfl, ?_⟩
        rw [hout h2]
        refine ⟨?_, ?_, rfl⟩ <;> repeat' (first | exact trivial | exact entV_refl _ | exact wrap_succ (by omega) | exact entLL_refl _ | rfl | apply And.intro)
    · have h1 : k = (nodesL l).length := by simp at h1; omega
      subst h1
      conv => whnf
      rw [onAt_all]
      exact ints_ent2 (entLL_refl _)
def egsOf (n : Nat) (g : Nat → Nat → Int) : List Eg := (List.range n).map fun i => ⟨g i 0, g i 1⟩
theorem egs_of {n : Nat} {g : Nat → Nat → Int} : entV (.c (.rs n 2 fun i j => .i .i64 (g i j))) (.c (egsX (egsOf n g))) :=
  rows_of fun i hi j hj => by
    match j, hj with
    | 0, _ => exact ⟨rfl, rfl⟩
    | 1, _ => exact ⟨rfl, rfl⟩
theorem egs_wf {n : Nat} {g : Nat → Nat → Int} (h : ∀ i, i < n → ∀ j, j < 2 → (Lit.int .i64 (g i j)).wf = true) : ∀ e ∈ egsOf n g, (Lit.int .i64 e.to).wf = true := fun e he => by
  obtain ⟨i, hi, rfl⟩ := List.mem_map.1 he
  exact h i (by simpa using hi) 1 (by omega)
end Go.Proofs.Ytehbalkhboedeaa
