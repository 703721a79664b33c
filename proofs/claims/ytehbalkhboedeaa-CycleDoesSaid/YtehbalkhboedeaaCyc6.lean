/- The ring that is told: the program's way. -/
import Derived.Test.YtehbalkhboedeaaCyc5
namespace Go.Proofs.Ytehbalkhboedeaa
open Go Go.Eng Go.RowKit
set_option maxRecDepth 100000
set_option maxHeartbeats 8000000
set_option linter.unusedVariables false
set_option linter.unusedSimpArgs false
/-- What the walk from the ring's beginning backwards knows, n steps back. -/
structure BInv (l : List Eg) (a : Int) (n : Nat) (dom : List Int) (dist : Int → Int) (row : List Int) : Prop where
  mem : ∀ x, x ∈ dom ↔ ∃ m, m ≤ n ∧ Ds l a m x
  val : ∀ x ∈ dom, dist x = dN l a x
  inRow : ∀ x, x ∈ row ↔ (n = 0 ∧ x = a) ∨ Ds l a n x
  nd : dom.Nodup
  len : row.length ≤ l.length + 1
theorem BInv.start (l : List Eg) (a : Int) (f : Int → Int) : BInv l a 0 [] f [a] :=
  ⟨fun x => ⟨fun h => by simp at h, fun ⟨m, hm, h⟩ => by have := h.1; omega⟩, fun x h => by simp at h, fun x => ⟨fun h => .inl ⟨rfl, by simpa using h⟩, fun h => h.elim (fun h => by simp [h.2]) (fun h => by have := h.1; omega)⟩, List.nodup_nil, by simp⟩
theorem BInv.room {l : List Eg} {a : Int} {n : Nat} {dom : List Int} {dist : Int → Int} {row : List Int} (h : BInv l a n dom dist row) : dom.length ≤ (nodesL l).length :=
  nodup_le h.nd fun x hx => by
    obtain ⟨m, _, hd⟩ := (h.mem x).1 hx
    exact (ds_rc hd).fr_node
def ahdL (l : List Eg) (dom row : List Int) : List Int := (l.filter fun e => decide (e.fr ∉ dom) && decide (e.to ∈ row)).map fun e => e.fr
theorem ahd_snoc (l : List Eg) (dom row : List Int) (e : Eg) : ahdL (l ++ [e]) dom row = if e.fr ∉ dom ∧ e.to ∈ row then ahdL l dom row ++ [e.fr] else ahdL l dom row := by
  unfold ahdL
  rw [List.filter_append, List.map_append]
  by_cases h : e.fr ∉ dom ∧ e.to ∈ row
  · rw [if_pos h, List.filter_cons, if_pos (by simp [h])]; rfl
  · rw [if_neg h, List.filter_cons, if_neg (by simpa using h)]; simp
theorem ahd_len (l : List Eg) (dom row : List Int) : (ahdL l dom row).length ≤ l.length := by unfold ahdL; rw [List.length_map]; exact List.length_filter_le _ _
theorem BInv.ahead {l : List Eg} {a : Int} {n : Nat} {dom : List Int} {dist : Int → Int} {row : List Int} (h : BInv l a n dom dist row) (x : Int) : x ∈ ahdL l dom row ↔ Ds l a (n + 1) x := by
  simp only [ahdL, List.mem_map, List.mem_filter, Bool.and_eq_true, decide_eq_true_eq]
  constructor
  · rintro ⟨e, ⟨h1, h2, h3⟩, rfl⟩
    have hs : St l (n + 1) e.fr a := by
      rcases (h.inRow e.to).1 h3 with ⟨h4, h5⟩ | h4
      · subst h4; exact ⟨e.to, h1, h5⟩
      · exact ⟨e.to, h1, h4.2.1⟩
    refine ⟨by omega, hs, fun j hj1 hj2 hj3 => h2 ?_⟩
    have hx : Rc l e.fr a := by
      rw [show j = (j - 1) + 1 by omega] at hj3; exact St.rc hj3
    have hd := dN_ds hx
    exact (h.mem e.fr).2 ⟨_, by have := ds_le hd hj1 hj3; omega, hd⟩
  · intro hd
    have hnd : x ∉ dom := fun hx => by
      obtain ⟨m, hm, hd2⟩ := (h.mem x).1 hx
      have := ds_uniq hd hd2; omega
    by_cases hn : n = 0
    · subst hn
      exact ⟨⟨x, a⟩, ⟨ds_one hd, hnd, (h.inRow a).2 (.inl ⟨rfl, rfl⟩)⟩, rfl⟩
    · obtain ⟨y, hy, hdy⟩ := ds_next (by omega) hd
      exact ⟨⟨x, y⟩, ⟨hy, hnd, (h.inRow y).2 (.inr hdy)⟩, rfl⟩
def insI (dom : List Int) (x : Int) : List Int := if x ∈ dom then dom else dom ++ [x]
theorem insI_mem (dom : List Int) (x y : Int) : y ∈ insI dom x ↔ y ∈ dom ∨ y = x := by
  unfold insI
  split
  · exact ⟨.inl, fun h => h.elim id fun e => e ▸ ‹_›⟩
  · simp
theorem insI_nd {dom : List Int} {x : Int} (h : dom.Nodup) : (insI dom x).Nodup := by
  unfold insI
  split
  · exact h
  · rename_i hx
    exact List.nodup_append.2 ⟨h, by simp, by simp; exact fun y hy e => hx (e ▸ hy)⟩
theorem insI_keys (dom : List Int) (x : Int) : insD (keysI dom) [x] = keysI (insI dom x) := by
  by_cases h : x ∈ dom
  · rw [insD, if_pos ((keysI_mem dom x).2 h), insI, if_pos h]
  · rw [keysI_snoc dom x h, insI, if_neg h]
def insA (dom m : List Int) : List Int := m.foldl insI dom
theorem insA_mem (m : List Int) : ∀ (dom : List Int) (y : Int), y ∈ insA dom m ↔ y ∈ dom ∨ y ∈ m := by
  induction m with
  | nil => intro dom y; simp [insA]
  | cons x m ih =>
    intro dom y
    rw [insA, List.foldl_cons]
    have := ih (insI dom x) y
    rw [insA] at this
    rw [this, insI_mem, List.mem_cons]
    exact or_assoc
theorem insA_nd (m : List Int) : ∀ {dom : List Int}, dom.Nodup → (insA dom m).Nodup := by
  induction m with
  | nil => intro dom h; exact h
  | cons x m ih => intro dom h; exact ih (insI_nd h)
theorem BInv.next {l : List Eg} {a : Int} {n : Nat} {dom : List Int} {dist dist' : Int → Int} {row : List Int} (h : BInv l a n dom dist row) (hd : ∀ y, dist' y = if y ∈ ahdL l dom row then ((n + 1 : Nat) : Int) else dist y) :
    BInv l a (n + 1) (insA dom (ahdL l dom row)) dist' (ahdL l dom row) := by
  refine ⟨fun x => ?_, fun x hx => ?_, fun x => ?_, insA_nd _ h.nd, Nat.le_succ_of_le (ahd_len _ _ _)⟩
  · rw [insA_mem, h.mem, h.ahead]
    constructor
    · rintro (⟨m, h1, h2⟩ | h1)
      · exact ⟨m, by omega, h2⟩
      · exact ⟨n + 1, Nat.le_refl _, h1⟩
    · rintro ⟨m, h1, h2⟩
      by_cases e : m = n + 1
      · subst e; exact .inr h2
      · exact .inl ⟨m, by omega, h2⟩
  · rw [hd]
    split
    · rename_i hx2
      rw [dN_eq ((h.ahead x).1 hx2)]
    · rename_i hx2
      rcases (insA_mem _ dom x).1 hx with h1 | h1
      · exact h.val x h1
      · exact absurd h1 hx2
  · rw [h.ahead]; simp
/-- Where nobody is ahead all have been found. -/
theorem BInv.done {l : List Eg} {a : Int} {n : Nat} {dom : List Int} {dist : Int → Int} {row : List Int} (h : BInv l a n dom dist row) (hn : ahdL l dom row = []) : ∀ x, x ∈ dom ↔ Rc l x a := by
  have hno : ∀ x, ¬ Ds l a (n + 1) x := fun x hx => by
    have := (h.ahead x).2 hx
    rw [hn] at this; simp at this
  have hall : ∀ k x, ¬ Ds l a (n + 1 + k) x := by
    intro k
    induction k with
    | zero => exact hno
    | succ k ih =>
      intro x hx
      obtain ⟨y, _, hy⟩ := ds_next (n := n + 1 + k) (by omega) hx
      exact ih y hy
  intro x
  rw [h.mem]
  constructor
  · rintro ⟨m, _, hd⟩; exact ds_rc hd
  · intro hx
    refine ⟨_, ?_, dN_ds hx⟩
    rcases Nat.lt_or_ge n (dN l a x) with h1 | h1
    · have := hall (dN l a x - (n + 1)) x
      rw [show n + 1 + (dN l a x - (n + 1)) = dN l a x by omega] at this
      exact absurd (dN_ds hx) this
    · exact h1
theorem BInv.grows {l : List Eg} {a : Int} {n : Nat} {dom : List Int} {dist : Int → Int} {row : List Int} (h : BInv l a n dom dist row) (hn : ahdL l dom row ≠ []) : dom.length < (insA dom (ahdL l dom row)).length := by
  obtain ⟨x, hx⟩ := List.exists_mem_of_ne_nil _ hn
  refine nodup_lt h.nd (fun y hy => (insA_mem _ dom y).2 (.inl hy)) ((insA_mem _ dom x).2 (.inr hx)) fun hxd => ?_
  obtain ⟨m, hm, hd⟩ := (h.mem x).1 hxd
  have := ds_uniq hd ((h.ahead x).1 hx); omega
abbrev distA (dom : List Int) (dist : Int → Int) : It := .abs (MapA false [.i64] false 1 (keysI dom) fun k => [.i .i64 (dist (k.headD 0))])
/-- Whom the walk backwards finds, in its order. -/
def stepsM (l : List Eg) : Nat → List Int → List Int → List Int
  | 0, dom, _ => dom
  | f + 1, dom, row => if ahdL l dom row = [] then dom else stepsM l f (insA dom (ahdL l dom row)) (ahdL l dom row)
def stepsD (l : List Eg) (a : Int) : List Int := stepsM l ((nodesL l).length + 1) [] [a]
theorem steps_fn (l : List Eg) (a : Int) (hl : l.length ≤ 500) : FnM Try.prog 51 [.c (egsX l), .c (.i .i64 a)] [] [] (.c (.ow 0)) [distA (stepsD l a) (fun x => dN l a x)] := by
  refine FnM.ofJ tab_ok [200000] Try.func51 (by kernel_rfl) (by kernel_rfl) (fun vs => ?_)
  conv => whnf
  have hnl := nodes_len l
  refine scopel tab_ok 0 rfl (fun (i : Nat × List Int × (Int → Int) × List Int) => BInv l a i.1 i.2.1 i.2.2.1 i.2.2.2 ∧ i.1 ≤ i.2.1.length ∧ ∃ f, (nodesL l).length - i.2.1.length < f ∧ stepsM l f i.2.1 i.2.2.2 = stepsD l a)
    (fun i => [(0, .c (egsX l)), (5, .c (.ow 1)), (6, .c (intsX i.2.2.2)), (7, .c (.i .i64 i.1))]) (fun i => [.held vs [], distA i.2.1 i.2.2.1]) (fun i => (nodesL l).length - i.2.1.length) 62 ?_ (fun i hi => ?_)
  · conv => whnf
    refine opx_makeMap false [.i64] false 1 (fun k => [.i .i64 0]) ?_
    conv => whnf
    refine labx_gh (.frz 2) ?_
    conv => whnf
    refine labx_go ⟨(0, [], (fun _ => 0), [a]), ⟨BInv.start l a _, Nat.le_refl _, _, by simp, rfl⟩, rfl, ?_⟩
    refine ⟨?_, ?_, rfl⟩ <;> repeat' (first | exact trivial | exact entV_refl _ | exact ⟨rfl, rfl⟩ | exact ⟨rfl, trivial⟩ | exact (fun _ _ _ _ h => h) | exact ints_ent rfl | rfl | apply And.intro)
    trace_state
  · obtain ⟨n, dom, dist, row⟩ := i
    obtain ⟨hi, hn, f, hf, hm⟩ := hi
    have hn : n ≤ dom.length := hn
    have hi : BInv l a n dom dist row := hi
    have hf : (nodesL l).length - dom.length < f := hf
    have hm : stepsM l f dom row = stepsD l a := hm
    have hroom := hi.room
    conv => whnf
    have hw : IntKind.i64.wrap ((n : Int) + 1) = ((n + 1 : Nat) : Int) := wrap_succ (by omega)
    rw [hw]
    refine loopx_nil 8 3 1 rfl ?_
    conv => whnf
    refine loopi tab_ok (fun k => k ≤ l.length) (fun k => [(0, .c (egsX l)), (5, .c (.ow 1)), (6, .c (intsX row)), (7, .c (.i .i64 ((n + 1 : Nat) : Int))), (8, .c (.ow 2)), (20, .c (egsX l)), (21, .c (.i .i64 l.length)), (22, .c (.i .i64 k))])
      (fun k => [.held vs [], distA dom dist, rowI 3 (ahdL (l.take k) dom row)]) (fun k => l.length - k) 0 _ rfl (Nat.zero_le _) ?_ (fun k hk => ?_)
    · refine ⟨?_, ?_, rfl⟩ <;> repeat' (first | exact trivial | exact entV_refl _ | exact entLL_refl _ | exact ⟨rfl, rfl⟩ | exact ⟨rfl, trivial⟩ | exact (fun _ _ _ _ h => h) | rfl | apply And.intro)
    · conv => whnf
      have hel := ahd_len (l.take k) dom row
      have htl : (l.take k).length = k := by rw [List.length_take]; omega
      refine And.intro (fun h1 => ?_) (fun h1 => ?_)
      · have h1 : k < l.length := by simp at h1; omega
        have htk : l.take (k + 1) = l.take k ++ [l.getD k default] := take_snocE default h1
        conv => whnf
        refine ⟨by omega, ?_⟩
        conv => whnf
        rw [Int.toNat_natCast]
        generalize l.getD k default = d at *
        have hsn := ahd_snoc (l.take k) dom row d
        refine opx_lookup2 tab_ok rfl rfl rfl rfl rfl rfl rfl (fun h2 => ?_) (fun h2 => ?_)
        · have h2 : d.fr ∈ dom := (keysI_mem dom d.fr).1 h2
          rw [if_neg (fun h => h.1 h2)] at hsn
          conv => whnf
          refine ⟨k + 1, by omega, by omega, rfl, ?_⟩
          rw [htk, hsn]
          refine ⟨?_, ?_, rfl⟩ <;> repeat' (first | exact trivial | exact entV_refl _ | exact entLL_refl _ | exact ⟨rfl, trivial⟩ | exact ⟨rfl, rfl⟩ | exact wrap_succ (by omega) | exact (fun _ _ _ _ h => h) | rfl | apply And.intro)
        · have h2 : d.fr ∉ dom := fun h => h2 ((keysI_mem dom d.fr).2 h)
          conv => whnf
          refine callx_tells (contains_fn row d.to (by have := hi.len; omega)) rfl trivial ?_
          conv => whnf
          refine And.intro (fun h3 => ?_) (fun h3 => ?_)
          · have h3 : d.to ∈ row := of_decide_eq_true h3
            rw [if_pos ⟨h2, h3⟩] at hsn
            conv => whnf
            refine ⟨by simp only [List.length_map, List.length_cons, List.length_nil]; omega, ?_⟩
            conv => whnf
            refine ⟨k + 1, by omega, by omega, rfl, ?_⟩
            rw [htk, hsn]
            refine ⟨?_, ?_, rfl⟩ <;> repeat' (first | exact trivial | exact entV_refl _ | exact ⟨rfl, trivial⟩ | exact wrap_succ (by omega) | exact (fun _ _ _ _ h => h) | apply And.intro)
            all_goals first | rfl | exact entLL_of_eq (by rw [List.map_append]; rfl)
          · have h3 : d.to ∉ row := of_decide_eq_false h3
            rw [if_neg (fun h => h3 h.2)] at hsn
            conv => whnf
            refine ⟨k + 1, by omega, by omega, rfl, ?_⟩
            rw [htk, hsn]
            refine ⟨?_, ?_, rfl⟩ <;> repeat' (first | exact trivial | exact entV_refl _ | exact entLL_refl _ | exact ⟨rfl, trivial⟩ | exact ⟨rfl, rfl⟩ | exact wrap_succ (by omega) | exact (fun _ _ _ _ h => h) | rfl | apply And.intro)
      · have h1 : k = l.length := by simp at h1; omega
        subst h1
        rw [List.take_length] at hel ⊢
        conv => whnf
        have hnext : ∀ d' : Int → Int, (∀ y, d' y = if y ∈ ahdL l dom row then ((n + 1 : Nat) : Int) else dist y) → BInv l a (n + 1) (insA dom (ahdL l dom row)) d' (ahdL l dom row) := fun d' h => hi.next h
        have hgrow := hi.grows
        have hdone := hi.done
        generalize hA : ahdL l dom row = A at *
        refine loopi tab_ok (fun j => j ≤ A.length) (fun j => [(0, .c (egsX l)), (5, .c (.ow 1)), (7, .c (.i .i64 ((n + 1 : Nat) : Int))), (8, .c (.ow 2)), (47, .c (.ow 2)), (48, .c (.i .i64 A.length)), (49, .c (.i .i64 j))])
          (fun j => [.held vs [], distA (insA dom (A.take j)) (fun y => if y ∈ A.take j then ((n + 1 : Nat) : Int) else dist y), rowI 3 A]) (fun j => A.length - j) 0 _ rfl (Nat.zero_le _) ?_ (fun j hj => ?_)
        · refine ⟨?_, ?_, rfl⟩ <;> repeat' (first | exact trivial | exact entV_refl _ | exact entLL_refl _ | exact ⟨rfl, rfl⟩ | exact ⟨rfl, trivial⟩ | rfl | apply And.intro)
          · simp
          · exact mapA_le rfl (fun k _ => by simp)
        · have hmap : (A.map (fun n => [XC.i IntKind.i64 n])).length = A.length := List.length_map ..
          conv => whnf
          refine And.intro (fun h2 => ?_) (fun h2 => ?_)
          · have h2 : j < A.length := by simp at h2; omega
            have htk : A.take (j + 1) = A.take j ++ [A.getD j 0] := take_snocI h2
            conv => whnf
            refine ⟨by rw [hmap]; omega, ?_⟩
            conv => whnf
            rw [Int.toNat_natCast]
            refine ⟨_, elI A h2, ?_⟩
            conv => whnf
            refine opx_update tab_ok rfl rfl rfl rfl rfl rfl rfl rfl rfl ?_
            conv => whnf
            refine ⟨j + 1, by omega, by omega, rfl, ?_⟩
            rw [htk]
            generalize A.getD j 0 = x at *
            refine ⟨?_, ?_, rfl⟩ <;> repeat' (first | exact trivial | exact entV_refl _ | exact entLL_refl _ | exact ⟨rfl, rfl⟩ | exact ⟨rfl, trivial⟩ | exact wrap_succ (by omega) | rfl | apply And.intro)
            refine mapA_le (by rw [insI_keys, insA, insA, List.foldl_append]; rfl) (fun k hk => ?_)
            rw [insI_keys] at hk
            obtain ⟨y, _, rfl⟩ := List.mem_map.1 hk
            by_cases e : y = x
            · subst e; simp [updV]
            · simp [updV, e]
          · have h2 : j = A.length := by simp at h2; omega
            subst h2
            rw [List.take_length]
            conv => whnf
            rw [hmap]
            refine And.intro (fun h3 => ?_) (fun h3 => ?_)
            · have h3 : A ≠ [] := fun e => by rw [e] at h3; simp at h3
              conv => whnf
              refine gotox_gh (.frz 2) ?_
              conv => whnf
              have hnx := hnext (fun y => if y ∈ A then ((n + 1 : Nat) : Int) else dist y) (fun y => rfl)
              have hg := hgrow h3
              have hr2 := hnx.room
              obtain ⟨f', rfl⟩ : ∃ f', f = f' + 1 := ⟨f - 1, by omega⟩
              rw [stepsM, hA, if_neg h3] at hm
              refine gotox_go ⟨(n + 1, insA dom A, _, A), ⟨hnx, by dsimp only; omega, f', by dsimp only; omega, hm⟩, by dsimp only; omega, rfl, ?_⟩
              refine ⟨?_, ?_, rfl⟩ <;> repeat' (first | exact trivial | exact entV_refl _ | exact ⟨rfl, rfl⟩ | exact ⟨rfl, trivial⟩ | exact (fun _ _ _ _ h => h) | exact ints_ent rfl | rfl | apply And.intro)
            · have h3 : A = [] := by simpa using h3
              conv => whnf
              obtain ⟨f', rfl⟩ : ∃ f', f = f' + 1 := ⟨f - 1, by omega⟩
              rw [stepsM, hA, if_pos h3] at hm
              subst h3
              refine mt_done (v := .c (.ow 0)) (hs' := [distA (stepsD l a) (fun x => dN l a x)]) (fx := []) (x := .c (.ow 1)) (ys := []) (h := [.held vs [], distA (insA dom []) (fun y => if y ∈ ([] : List Int) then ((n + 1 : Nat) : Int) else dist y), rowI 3 []]) [1] 0 rfl rfl rfl rfl rfl (entV_refl _) trivial ⟨?_, trivial⟩
              refine mapA_le (by rw [← hm]; rfl) (fun k hk => ?_)
              obtain ⟨y, hy, rfl⟩ := List.mem_map.1 hk
              have hv := hi.val y hy
              simp [hv]
theorem stepsM_mem {l : List Eg} {a : Int} : ∀ (f n : Nat) (dom row : List Int) (dist : Int → Int), BInv l a n dom dist row → (nodesL l).length - dom.length < f → ∀ x, x ∈ stepsM l f dom row ↔ Rc l x a
  | 0, _, _, _, _, _, hf => by omega
  | f + 1, n, dom, row, dist, h, hf => by
    intro x
    rw [stepsM]
    split
    · exact h.done ‹_› x
    · rename_i hne
      have hg := h.grows hne
      have hnx := h.next (dist' := fun y => if y ∈ ahdL l dom row then ((n + 1 : Nat) : Int) else dist y) (fun _ => rfl)
      have hr := hnx.room
      exact stepsM_mem f (n + 1) _ _ _ hnx (by omega) x
theorem stepsD_mem (l : List Eg) (a x : Int) : x ∈ stepsD l a ↔ Rc l x a := stepsM_mem _ 0 [] [a] (fun _ => 0) (BInv.start l a _) (by simp) x
theorem nxtF_of {l : List Eg} {a x : Int} {L k j : Nat} (hj : j < (fromL l x).length) (h1 : (fromL l x).getD j 0 ≠ a) (h2 : dN l a ((fromL l x).getD j 0) = L - k)
    (hall : ∀ i, i < j → ¬ ((fromL l x).getD i 0 ≠ a ∧ dN l a ((fromL l x).getD i 0) = L - k)) : nxtF l a L k x = some ((fromL l x).getD j 0) := by
  have hg : ∀ i (h : i < (fromL l x).length), (fromL l x)[i] = (fromL l x).getD i 0 := fun i h => by rw [List.getD_eq_getElem?_getD, List.getElem?_eq_getElem h]; rfl
  refine List.find?_eq_some_iff_getElem.2 ⟨by simp only [Bool.and_eq_true, decide_eq_true_eq]; exact ⟨h1, h2⟩, j, hj, hg j hj, fun i hi => ?_⟩
  have := hall i hi
  rw [hg i (by omega)]
  simp only [Bool.not_eq_true', Bool.and_eq_false_iff, decide_eq_false_iff_not]
  by_cases h3 : (fromL l x).getD i 0 ≠ a
  · exact .inr fun h4 => this ⟨h3, h4⟩
  · exact .inl h3
theorem gP_step {l : List Eg} {a x y : Int} {L k : Nat} {p : List Int} (hp : p = gP l a L k) (hx : p.getLast? = some x) (h : nxtF l a L (k + 1) x = some y) : p ++ [y] = gP l a L (k + 1) := by
  subst hp
  have e : (gP l a L k).getLastD 0 = x := by rw [List.getLastD_eq_getLast?, hx]; rfl
  rw [gP, e, h]
theorem ds_down {l : List Eg} {a : Int} : ∀ (m : Nat) (x : Int), Ds l a m x → ∀ i, 1 ≤ i → i ≤ m → ∃ y, Ds l a i y
  | 0, x, h, i, h1, h2 => by omega
  | m + 1, x, h, i, h1, h2 => by
    by_cases e : i = m + 1
    · subst e; exact ⟨x, h⟩
    · obtain ⟨y, _, hy⟩ := ds_next (by omega) h
      exact ds_down m y hy i h1 (by omega)
theorem dN_bound (l : List Eg) (a x : Int) : dN l a x ≤ (nodesL l).length := by
  by_cases hx : Rc l x a
  · have hd := dN_ds hx
    generalize dN l a x = m at hd
    have hex : ∀ i, ∃ y, 1 ≤ i → i ≤ m → Ds l a i y := fun i => by
      by_cases h : 1 ≤ i ∧ i ≤ m
      · obtain ⟨y, hy⟩ := ds_down m x hd i h.1 h.2
        exact ⟨y, fun _ _ => hy⟩
      · exact ⟨0, fun h1 h2 => absurd ⟨h1, h2⟩ h⟩
    obtain ⟨f, hf⟩ := Classical.axiomOfChoice hex
    have hnd : ((List.range m).map fun i => f (i + 1)).Nodup := by
      refine List.pairwise_map.2 (List.nodup_range.imp_of_mem fun {i j} hi hj hne e => ?_)
      have hi : i < m := by simpa using hi
      have hj : j < m := by simpa using hj
      have d1 := hf (i + 1) (by omega) (by omega)
      have d2 := hf (j + 1) (by omega) (by omega)
      rw [e] at d1
      have := ds_uniq d1 d2
      omega
    have := nodup_le hnd (t := nodesL l) fun y hy => by
      obtain ⟨i, hi, rfl⟩ := List.mem_map.1 hy
      have hi : i < m := by simpa using hi
      exact (ds_rc (hf (i + 1) (by omega) (by omega))).fr_node
    simpa using this
  · have : dN l a x = 0 := by
      unfold dN
      rw [dif_neg]
      rintro ⟨n, hn⟩
      exact hx (ds_rc hn)
    omega
theorem dN_le {l : List Eg} {a x : Int} {N : Nat} (h : dN l a x ≤ N) : (dN l a x : Int) ≤ N := by omega
theorem find_fn (l : List Eg) (hl : l.length ≤ 500) (hwf : ∀ e ∈ l, (Lit.int .i64 e.to).wf = true) : Eng.Fn Try.prog 29 [.c (egsX l)] (Tells (.c (intsX (findL l)))) := by
  refine Eng.Fn.ofZ tab_ok Try.func29 (by kernel_rfl) (by kernel_rfl) trivial (fun w0 => ?_)
  conv => whnf
  cases ho : onL l with
  | nil =>
    refine scopex_plain tab_ok ?_
    conv => whnf
    refine callx_tells (on_fn l (by omega) hwf) rfl trivial ?_
    rw [ho]
    conv => whnf
    refine And.intro (fun h1 => ?_) (fun h1 => absurd h1 (by decide))
    conv => whnf
    rw [show findL l = [] by rw [findL, ho]]
    exact ⟨rfl, rfl⟩
  | cons a r =>
    have hon : Rc l a a := (on_mem l a).1 (by rw [ho]; simp)
    have hol := on_len l
    rw [ho] at hol
    have hnl := nodes_len l
    have hD := dN_ds hon
    have hLe : dN l a a ≤ 1000 := Nat.le_trans (dN_bound l a a) (by omega)
    have hfind : findL l = gP l a (dN l a a) (dN l a a - 1) := by rw [findL, ho]
    have haD : a ∈ stepsD l a := (stepsD_mem l a a).2 hon
    generalize hL : dN l a a = L at *
    refine scopel tab_ok 0 rfl (fun (i : List Int × Int) => ∃ k, k < L ∧ i.1 = gP l a L k ∧ i.1.length = k + 1 ∧ GInv l a L i.1 i.2)
      (fun i => [(0, .c (egsX l)), (4, .c (.i .i64 a)), (5, .c (.ow 0)), (6, .c (.ow 1)), (7, .c (.i .i64 i.2))]) (fun i => [distA (stepsD l a) (fun x => dN l a x), rowI 3 i.1]) (fun i => L - i.1.length) 75 ?_ (fun i hi => ?_)
    · conv => whnf
      refine callx_tells (on_fn l (by omega) hwf) rfl trivial ?_
      rw [ho]
      conv => whnf
      refine And.intro (fun h1 => absurd h1 (by simp; omega)) (fun h1 => ?_)
      conv => whnf
      refine ⟨by simp, ?_⟩
      conv => whnf
      refine callx_m (steps_fn l a hl) [] (by kernel_rfl) ⟨entV_refl _, ⟨rfl, rfl⟩, trivial⟩ trivial ?_
      conv => whnf
      refine labx_go ⟨([a], a), ⟨0, by have := hD.1; omega, rfl, rfl, GInv.start hD⟩, rfl, ?_⟩
      refine ⟨?_, ?_, rfl⟩ <;> repeat' (first | exact trivial | exact entV_refl _ | exact entLL_refl _ | exact ⟨rfl, trivial⟩ | exact ⟨rfl, rfl⟩ | exact wrap_succ (by omega) | exact (fun _ _ _ _ h => h) | rfl | apply And.intro)
    · obtain ⟨p, x⟩ := i
      obtain ⟨k, hk, hp, hlen, hinv⟩ := hi
      have hp : p = gP l a L k := hp
      have hlen : p.length = k + 1 := hlen
      have hinv : GInv l a L p x := hinv
      have hpl := hinv.len
      have hfl := from_len l x
      have hmap : (p.map (fun n => [XC.i IntKind.i64 n])).length = p.length := List.length_map ..
      conv => whnf
      refine callx_tells (from_fn l x (by omega)) rfl trivial ?_
      conv => whnf
      refine loopi tab_ok (fun j => j ≤ (fromL l x).length ∧ ∀ i, i < j → ¬ ((fromL l x).getD i 0 = a ∧ p.length = L) ∧ ¬ ((fromL l x).getD i 0 ∈ stepsD l a ∧ (fromL l x).getD i 0 ≠ a ∧ (dN l a ((fromL l x).getD i 0) : Int) = (L : Int) - p.length))
        (fun j => [(0, .c (egsX l)), (4, .c (.i .i64 a)), (5, .c (.ow 0)), (6, .c (.ow 1)), (7, .c (.i .i64 x)), (28, .c (intsX (fromL l x))), (29, .c (.i .i64 (fromL l x).length)), (30, .c (.i .i64 j))]) (fun j => [distA (stepsD l a) (fun x => dN l a x), rowI 3 p]) (fun j => (fromL l x).length - j) 0 _ rfl ⟨Nat.zero_le _, fun i h => by omega⟩ ?_ (fun j hj => ?_)
      · refine ⟨?_, ?_, rfl⟩ <;> repeat' (first | exact trivial | exact entV_refl _ | exact entLL_refl _ | exact ⟨rfl, trivial⟩ | exact ⟨rfl, rfl⟩ | exact wrap_succ (by omega) | exact (fun _ _ _ _ h => h) | rfl | apply And.intro)
      · obtain ⟨hj, hall⟩ := hj
        conv => whnf
        refine And.intro (fun h1 => ?_) (fun h1 => ?_)
        · have h1 : j < (fromL l x).length := by simp at h1; omega
          conv => whnf
          refine ⟨by omega, ?_⟩
          conv => whnf
          rw [Int.toNat_natCast]
          generalize hy : (fromL l x).getD j 0 = y
          have hstep : ∀ (h3 : ¬ (y = a ∧ p.length = L)) (h4 : ¬ (y ∈ stepsD l a ∧ y ≠ a ∧ (dN l a y : Int) = (L : Int) - p.length)), ∀ i, i < j + 1 → ¬ ((fromL l x).getD i 0 = a ∧ p.length = L) ∧ ¬ ((fromL l x).getD i 0 ∈ stepsD l a ∧ (fromL l x).getD i 0 ≠ a ∧ (dN l a ((fromL l x).getD i 0) : Int) = (L : Int) - p.length) := fun h3 h4 i hi => by
            by_cases e : i = j
            · subst e; rw [hy]; exact ⟨h3, h4⟩
            · exact hall i (by omega)
          have hby := dN_bound l a y
          have hgo : y ∈ stepsD l a → y ≠ a → (dN l a y : Int) = (L : Int) - p.length → p.length < L ∧ p ++ [y] = gP l a L (k + 1) ∧ GInv l a L (p ++ [y]) y := fun h3 h4 h5 => by
            have hdy := dN_ds ((stepsD_mem l a y).1 h3)
            have h6 := hdy.1
            have hlt : p.length < L := by omega
            have hmem : (⟨x, y⟩ : Eg) ∈ l := (from_mem l x y).1 (by rw [← hy, List.getD_eq_getElem?_getD, List.getElem?_eq_getElem h1]; exact List.getElem_mem h1)
            have hn : nxtF l a L (k + 1) x = some y := by
              rw [← hlen, ← hy]
              refine nxtF_of h1 (by rw [hy]; exact h4) (by rw [hy]; omega) (fun i hi ⟨g1, g2⟩ => (hall i hi).2 ⟨?_, g1, by omega⟩)
              exact (stepsD_mem l a _).2 (ds_rc (dN_of (by omega) g2))
            refine ⟨hlt, gP_step hp hinv.ne hn, hinv.next hlt hmem ?_⟩
            have : dN l a y = L - p.length := by omega
            rw [← this]; exact hdy
          refine And.intro (fun h2 => ?_) (fun h2 => ?_)
          · have h2 : y = a := by simpa using h2
            conv => whnf
            refine opx_lookup tab_ok rfl rfl rfl rfl rfl rfl rfl (fun g1 => ?_) (fun g1 => absurd ((keysI_mem _ a).2 haD) g1)
            clear g1
            conv => whnf
            refine And.intro (fun h3 => ?_) (fun h3 => ?_)
            · have h3 : p.length = L := by
                have h3 : (((p.map (fun n => [XC.i IntKind.i64 n])).length : Nat) : Int) = (dN l a a : Int) := by simpa using h3
                rw [hmap, hL] at h3; omega
              conv => whnf
              have e : p = findL l := by rw [hp, hfind]; congr 1; omega
              rw [e]
              exact ints_ent2 (entLL_refl _)
            · have h3 : ¬ p.length = L := by
                have h3 : ¬ (((p.map (fun n => [XC.i IntKind.i64 n])).length : Nat) : Int) = (dN l a a : Int) := by simpa using h3
                rw [hmap, hL] at h3; omega
              conv => whnf
              refine opx_lookup2 tab_ok rfl rfl rfl rfl rfl rfl rfl (fun g1 => ?_) (fun g1 => absurd ((keysI_mem _ y).2 (by rw [h2]; exact haD)) g1)
              clear g1
              conv => whnf
              refine And.intro (fun h4 => absurd h2 (by simpa using h4)) (fun h4 => ?_)
              conv => whnf
              refine ⟨j + 1, ⟨by omega, hstep (fun h => h3 h.2) (fun h => h.2.1 h2)⟩, by omega, rfl, ?_⟩
              refine ⟨?_, ?_, rfl⟩ <;> repeat' (first | exact trivial | exact entV_refl _ | exact entLL_refl _ | exact ⟨rfl, trivial⟩ | exact ⟨rfl, rfl⟩ | exact wrap_succ (by omega) | exact (fun _ _ _ _ h => h) | rfl | apply And.intro)
          · have h2 : ¬ y = a := by simpa using h2
            conv => whnf
            refine opx_lookup2 tab_ok rfl rfl rfl rfl rfl rfl rfl (fun g1 => ?_) (fun g1 => ?_)
            · have g1 : y ∈ stepsD l a := (keysI_mem _ y).1 g1
              conv => whnf
              refine And.intro (fun h4 => ?_) (fun h4 => absurd h2 (by simpa using h4))
              conv => whnf
              refine opx_lookup tab_ok rfl rfl rfl rfl rfl rfl rfl (fun g2 => ?_) (fun g2 => absurd ((keysI_mem _ a).2 haD) g2)
              clear g2
              conv => whnf
              have hw : IntKind.i64.wrap (((dN l a ([a].headD 0) : Nat) : Int) - ((p.map (fun n => [XC.i IntKind.i64 n])).length : Int)) = (L : Int) - p.length := by
                rw [hmap, show [a].headD 0 = a from rfl, hL, wrap_ok (by omega) (by omega)]
              refine And.intro (fun h5 => ?_) (fun h5 => ?_)
              · have h5 : (dN l a y : Int) = (L : Int) - p.length := by
                  have h5 : (dN l a ([y].headD 0) : Int) = _ := eq_of_beq h5
                  rw [hw] at h5; exact h5
                obtain ⟨k1, k2, k3⟩ := hgo g1 h2 h5
                conv => whnf
                refine ⟨by simp only [List.length_map, List.length_cons, List.length_nil]; omega, ?_⟩
                conv => whnf
                refine ⟨(p ++ [y], y), ⟨k + 1, by omega, k2, by simp; omega, k3⟩, by simp; omega, rfl, ?_⟩
                refine ⟨?_, ?_, rfl⟩ <;> repeat' (first | exact trivial | exact entV_refl _ | exact ⟨rfl, trivial⟩ | exact ⟨rfl, rfl⟩ | exact (fun _ _ _ _ h => h) | apply And.intro)
                all_goals first | rfl | exact entLL_of_eq (by rw [List.map_append]; rfl)
              · have h5 : ¬ (dN l a y : Int) = (L : Int) - p.length := fun e => ne_of_beq_false h5 (Eq.trans e hw.symm)
                conv => whnf
                refine ⟨j + 1, ⟨by omega, hstep (fun h => h2 h.1) (fun h => h5 h.2.2)⟩, by omega, rfl, ?_⟩
                refine ⟨?_, ?_, rfl⟩ <;> repeat' (first | exact trivial | exact entV_refl _ | exact entLL_refl _ | exact ⟨rfl, trivial⟩ | exact ⟨rfl, rfl⟩ | exact wrap_succ (by omega) | exact (fun _ _ _ _ h => h) | rfl | apply And.intro)
            · have g1 : y ∉ stepsD l a := fun h => g1 ((keysI_mem _ y).2 h)
              conv => whnf
              refine ⟨j + 1, ⟨by omega, hstep (fun h => h2 h.1) (fun h => g1 h.1)⟩, by omega, rfl, ?_⟩
              refine ⟨?_, ?_, rfl⟩ <;> repeat' (first | exact trivial | exact entV_refl _ | exact entLL_refl _ | exact ⟨rfl, trivial⟩ | exact ⟨rfl, rfl⟩ | exact wrap_succ (by omega) | exact (fun _ _ _ _ h => h) | rfl | apply And.intro)
        · have h1 : j = (fromL l x).length := by simp at h1; omega
          subst h1
          exfalso
          have hmem : ∀ y ∈ fromL l x, ∃ i, i < (fromL l x).length ∧ (fromL l x).getD i 0 = y := fun y hy => by
            obtain ⟨i, hi, e⟩ := List.mem_iff_getElem.1 hy
            exact ⟨i, hi, by rw [List.getD_eq_getElem?_getD, List.getElem?_eq_getElem hi]; exact e⟩
          by_cases e : p.length = L
          · have hd := hinv.ds
            rw [show L - (p.length - 1) = 1 by have := hD.1; omega] at hd
            obtain ⟨i, hi, h2⟩ := hmem a ((from_mem l x a).2 (ds_one hd))
            exact (hall i hi).1 ⟨h2, e⟩
          · obtain ⟨y, hy⟩ := hinv.next_ex hD (by omega)
            obtain ⟨h3, h4, h5⟩ := nxtF_spec (by omega) hy
            obtain ⟨i, hi, h2⟩ := hmem y ((from_mem l x y).2 h3)
            refine (hall i hi).2 ⟨by rw [h2]; exact (stepsD_mem l a y).2 (ds_rc h5), by rw [h2]; exact h4, ?_⟩
            rw [h2, dN_eq h5]; omega
end Go.Proofs.Ytehbalkhboedeaa
