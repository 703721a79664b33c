/- Spans: who had which lock from when to when. -/
import Derived.Test.YtcagncomnjeinaaData
import Derived.Test.YtcagncomnjeinaaEngY
import Derived.Test.YtcagncomnjeinaaTab
namespace Go.Proofs.Ytcagncomnjeinaa
open Go Go.Eng Go.RowKit
set_option maxRecDepth 100000
set_option maxHeartbeats 4000000
set_option linter.unusedVariables false
set_option linter.unusedSimpArgs false
def getsB (e : Ev) : Bool := (e.kind == 2 && e.val == 1) || e.kind == 3 || e.kind == 13
theorem gets_fn (e : Ev) : Eng.Fn Try.prog 67 [.a (encEv e)] (Tells (.c (.b (getsB e)))) := by
  refine Eng.Fn.of tab_ok Try.func67 (by kernel_rfl) (by kernel_rfl) (fun w0 => ?_)
  conv => whnf
  repeat' (apply And.intro <;> intro h <;> conv => whnf)
  all_goals simp_all [getsB]
def spAtB (s : Sp) (i : Int) : Bool := decide (s.fr ≤ i) && (s.to == -1 || decide (s.to > i))
theorem spAt_fn (s : Sp) (i : Int) : Eng.Fn Try.prog 68 [.a (encS s), .c (.i .i64 i)] (Tells (.c (.b (spAtB s i)))) := by
  refine Eng.Fn.of tab_ok Try.func68 (by kernel_rfl) (by kernel_rfl) (fun w0 => ?_)
  conv => whnf
  repeat' (apply And.intro <;> intro h <;> conv => whnf)
  all_goals simp_all [spAtB]
  all_goals omega
theorem wrap_succ' {k : Nat} (h : k < 9223372036854775807) : IntKind.i64.wrap ((k : Int) + 1) = ((k + 1 : Nat) : Int) := by
  rw [IntKind.wrap_i64]; omega
theorem few_fn (l : List Ev) (hl : l.length ≤ 9223372036854775807) : Eng.Fn Try.prog 23 [.c (evsX l)] (Tells (.c (.b (l.all (fun e => decide (e.rows.length ≤ 20)) && decide (l.length ≤ 30))))) := by
  refine Eng.Fn.of tab_ok Try.func23 (by kernel_rfl) (by kernel_rfl) (fun w0 => ?_)
  conv => whnf
  refine loopi tab_ok (fun k => k ≤ l.length ∧ (l.take k).all (fun e => decide (e.rows.length ≤ 20)) = true) (fun k => [(0, .c (evsX l)), (5, .c (evsX l)), (6, .c (.i .i64 l.length)), (7, .c (.i .i64 k))]) (fun k => []) (fun k => l.length - k) 0 19 rfl ⟨Nat.zero_le _, by simp⟩ ?_ (fun k hk => ?_)
  · refine ⟨?_, ?_, rfl⟩ <;> repeat' (first | exact trivial | exact entV_refl _ | apply And.intro)
    all_goals rfl
  · obtain ⟨hk, hall⟩ := hk
    conv => whnf
    refine And.intro (fun h1 => ?_) (fun h1 => ?_)
    · conv => whnf
      simp only [decide_eq_true_eq] at h1
      have h2 : k < l.length := by omega
      refine ⟨by omega, ?_⟩
      conv => whnf
      refine And.intro (fun h3 => ?_) (fun h3 => ?_)
      · conv => whnf
        simp only [decide_eq_true_eq, Int.toNat_natCast] at h3
        have : (l.all (fun e => decide (e.rows.length ≤ 20)) && decide (l.length ≤ 30)) = false := by
         refine Bool.and_eq_false_iff.2 (.inl (Bool.eq_false_iff.2 fun h4 => ?_))
         have := List.all_eq_true.1 h4 (l.getD k default) (by rw [List.getD_eq_getElem?_getD, List.getElem?_eq_getElem h2]; exact List.getElem_mem h2)
         simp only [decide_eq_true_eq] at this
         omega
        exact this
      · conv => whnf
        simp only [decide_eq_false_iff_not, Int.toNat_natCast] at h3
        refine ⟨k + 1, ⟨by omega, ?_⟩, by omega, rfl, ?_⟩
        · rw [take_succ_snoc default _ _ h2, List.all_append, hall]
          simp; simp at h3; omega
        · refine ⟨?_, ?_, rfl⟩ <;> repeat' (first | exact trivial | exact entV_refl _ | apply And.intro)
          all_goals first
            | rfl
            | exact wrap_succ' (by omega)
    · conv => whnf
      simp only [decide_eq_false_iff_not] at h1
      have e : k = l.length := by omega
      subst e
      rw [List.take_length] at hall
      rw [hall]; simp
      omega
abbrev kyOf (tx : Int) (p : Pth) : List Int := [tx, p.a, p.b, p.c, p.d, p.n]
structure SpSt where
  out : List Sp
  dom : List (List Int)
  idx : List Int → Nat
def spClose (out : List Sp) (k : Nat) (i : Nat) : List Sp := out.set k { out.getD k default with to := (i : Int) }
def spStep (s : SpSt) (i : Nat) (e : Ev) : SpSt :=
  if getsB e = true ∧ kyOf e.tx e.p ∈ s.dom ∧ (s.out.getD (s.idx (kyOf e.tx e.p)) default).mode = e.mode then s
  else if getsB e = true then
    ⟨(if kyOf e.tx e.p ∈ s.dom then spClose s.out (s.idx (kyOf e.tx e.p)) i else s.out) ++ [⟨e.tx, e.p, e.mode, i, -1⟩], insD s.dom (kyOf e.tx e.p), fun q => if q = kyOf e.tx e.p then s.out.length else s.idx q⟩
  else if e.kind = 11 ∧ kyOf e.tx e.p ∈ s.dom then ⟨spClose s.out (s.idx (kyOf e.tx e.p)) i, s.dom.erase (kyOf e.tx e.p), s.idx⟩
  else s
def spSt (l : List Ev) : Nat → SpSt
  | 0 => ⟨[], [], fun _ => 0⟩
  | k + 1 => spStep (spSt l k) k (l.getD k default)
def spOf (l : List Ev) : List Sp := (spSt l l.length).out
theorem spClose_len (out : List Sp) (k i : Nat) : (spClose out k i).length = out.length := by simp [spClose]
theorem spStep_len (s : SpSt) (i : Nat) (e : Ev) : (spStep s i e).out.length ≤ s.out.length + 1 := by
  unfold spStep
  split
  · omega
  split
  · simp only [List.length_append, List.length_cons, List.length_nil]; split <;> simp [spClose_len]
  split
  · simp [spClose_len]
  · omega
theorem spSt_len (l : List Ev) : ∀ k, (spSt l k).out.length ≤ k
  | 0 => Nat.le_refl _
  | k + 1 => by
    have := spSt_len l k
    have := spStep_len (spSt l k) k (l.getD k default)
    unfold spSt; omega
/-- What is open lies in the list. -/
def SpIn (s : SpSt) : Prop := s.dom.Nodup ∧ ∀ q ∈ s.dom, s.idx q < s.out.length
theorem spStep_in {s : SpSt} {i : Nat} {e : Ev} (h : SpIn s) : SpIn (spStep s i e) := by
  unfold spStep
  split
  · exact h
  split
  · refine ⟨?_, fun q hq => ?_⟩
    · unfold insD; split
      · exact h.1
      · exact nodup_snoc h.1 ‹_›
    · have hl : (if kyOf e.tx e.p ∈ s.dom then spClose s.out (s.idx (kyOf e.tx e.p)) i else s.out).length = s.out.length := by split <;> simp [spClose_len]
      simp only [List.length_append, List.length_cons, List.length_nil, hl]
      split
      · omega
      · have : q ∈ s.dom := by
          unfold insD at hq
          split at hq
          · exact hq
          · rcases List.mem_append.1 hq with h1 | h1
            · exact h1
            · simp at h1; exact absurd h1 ‹_›
        have := h.2 q this
        omega
  split
  · exact ⟨h.1.erase _, fun q hq => by rw [spClose_len]; exact h.2 q (List.mem_of_mem_erase hq)⟩
  · exact h
theorem spSt_in (l : List Ev) : ∀ k, SpIn (spSt l k)
  | 0 => ⟨by simp [spSt], by simp [spSt]⟩
  | k + 1 => spStep_in (spSt_in l k)
theorem spOf_fn (l : List Ev) (hl : l.length ≤ 1000000) : Eng.Fn Try.prog 24 [.c (evsX l)] (Tells (.c (spansX (spOf l)))) := by
  refine Eng.Fn.ofZ tab_ok Try.func24 (by kernel_rfl) (by kernel_rfl) trivial (fun w0 => ?_)
  conv => whnf
  refine opx_makeMap true [.i64, .i64, .i64, .i64, .i64, .i64] false 1 (fun _ => []) ?_
  conv => whnf
  refine loopx_nil 3 36 9 rfl ?_
  conv => whnf
  refine loopi tab_ok (fun k => k ≤ l.length) (fun k => [(0, .c (evsX l)), (3, .c (.ow 1)), (4, .c (.ow 0)), (11, .c (evsX l)), (12, .c (.i .i64 l.length)), (13, .c (.i .i64 k))])
    (fun k => [.abs (MapA true [.i64, .i64, .i64, .i64, .i64, .i64] false 1 (spSt l k).dom (fun q => [.i .i64 ((spSt l k).idx q)])), .row 36 9 ((spSt l k).out.map encS)]) (fun k => l.length - k) 0 85 rfl (Nat.zero_le _) ?_ (fun k hk => ?_)
  · refine ⟨?_, ?_, rfl⟩ <;> repeat' (first | exact trivial | exact entV_refl _ | apply And.intro)
    all_goals first
      | rfl
      | exact mapA_le rfl (fun k hk => by simp at hk)
  · conv => whnf
    refine And.intro (fun h1 => ?_) (fun h1 => ?_)
    · conv => whnf
      simp only [decide_eq_true_eq] at h1
      have h2 : k < l.length := by omega
      have hlen := spSt_len l k
      have hin := spSt_in l k
      have hs : spSt l (k + 1) = spStep (spSt l k) k (l.getD k default) := rfl
      refine ⟨by omega, ?_⟩
      conv => whnf
      generalize he : l.getD (Int.toNat (k : Int)) default = e
      have he : l.getD k default = e := he
      rw [he] at hs
      have hmap : ∀ i, i < (spSt l k).out.length → ((spSt l k).out.map encS)[i]? = some (encS ((spSt l k).out.getD i default)) := fun i hi => by simp [hi]
      refine opx_lookup2 tab_ok rfl rfl rfl rfl rfl rfl rfl (fun h3 => ?_) (fun h3 => ?_)
      · have h3 : kyOf e.tx e.p ∈ (spSt l k).dom := h3
        have h4 := hin.2 _ h3
        conv => whnf
        refine drawx_pure tab_ok (by kernel_rfl) (by kernel_rfl) ?_
        conv => whnf
        refine callp_tells (gets_fn e) rfl trivial ?_
        conv => whnf
        refine And.intro (fun h5 => ?_) (fun h5 => ?_)
        · conv => whnf
          refine ⟨by simp only [List.length_map]; exact ⟨by omega, by exact_mod_cast h4⟩, ?_⟩
          conv => whnf
          refine ⟨_, hmap _ (by exact_mod_cast h4), ?_⟩
          conv => whnf
          refine And.intro (fun h6 => ?_) (fun h6 => ?_)
          · conv => whnf
            have hm : ((spSt l k).out.getD ((spSt l k).idx (kyOf e.tx e.p)) default).mode = e.mode := by simpa using h6
            have hst : spSt l (k + 1) = spSt l k := by rw [hs, spStep, if_pos ⟨h5, h3, hm⟩]
            refine ⟨k + 1, by omega, by omega, rfl, ?_⟩
            rw [hst]
            refine ⟨?_, ?_, rfl⟩ <;> repeat' (first | exact trivial | exact entV_refl _ | exact entLL_refl _ | exact (fun _ _ _ _ h => h) | apply And.intro)
            all_goals first
              | rfl
              | exact wrap_succ (by omega)
          · conv => whnf
            have hm : ¬ ((spSt l k).out.getD ((spSt l k).idx (kyOf e.tx e.p)) default).mode = e.mode := by simpa using h6
            refine callx_as (.c .bt) (gets_fn e) rfl h5 trivial ?_
            conv => whnf
            refine ⟨by simp only [List.length_map]; exact ⟨by omega, by exact_mod_cast h4⟩, ?_⟩
            conv => whnf
            refine ⟨_, hmap _ (by exact_mod_cast h4), ?_⟩
            conv => whnf
            refine opx_update tab_ok rfl rfl rfl rfl rfl rfl rfl rfl rfl ?_
            conv => whnf
            refine ⟨by simp only [List.length_map, List.length_set, List.length_cons, List.length_nil]; omega, ?_⟩
            conv => whnf
            have hst : spSt l (k + 1) = ⟨spClose (spSt l k).out ((spSt l k).idx (kyOf e.tx e.p)) k ++ [⟨e.tx, e.p, e.mode, k, -1⟩], insD (spSt l k).dom (kyOf e.tx e.p), fun q => if q = kyOf e.tx e.p then (spSt l k).out.length else (spSt l k).idx q⟩ := by
              rw [hs, spStep, if_neg (fun h => hm h.2.2), if_pos h5, if_pos h3]
            refine ⟨k + 1, by omega, by omega, rfl, ?_⟩
            rw [hst]
            refine ⟨?_, ?_, rfl⟩ <;> repeat' (first | exact trivial | exact entV_refl _ | apply And.intro)
            all_goals try first
              | rfl
              | exact wrap_succ (by omega)
              | exact mapA_le rfl (fun q _ => by
                  simp only [updV, List.length_map, List.length_set]
                  split <;> rfl)
            rw [List.map_append]
            refine entLL_append (entLL_of_eq (by rw [spClose, List.map_set]; rfl)) ?_
            repeat' (first | exact trivial | exact ⟨rfl, rfl⟩ | exact entC_refl _ | apply And.intro)
        · conv => whnf
          refine callx_as (.c .bf) (gets_fn e) rfl h5 trivial ?_
          conv => whnf
          refine And.intro (fun h6 => ?_) (fun h6 => ?_)
          · conv => whnf
            have h6 : e.kind = 11 := by simpa using h6
            refine ⟨by simp only [List.length_map]; exact ⟨by omega, by exact_mod_cast h4⟩, ?_⟩
            conv => whnf
            refine ⟨_, hmap _ (by exact_mod_cast h4), ?_⟩
            conv => whnf
            refine opx_delete tab_ok rfl rfl rfl rfl rfl ?_
            conv => whnf
            have hst : spSt l (k + 1) = ⟨spClose (spSt l k).out ((spSt l k).idx (kyOf e.tx e.p)) k, (spSt l k).dom.erase (kyOf e.tx e.p), (spSt l k).idx⟩ := by
              rw [hs, spStep, if_neg (fun h => by rw [h5] at h; cases h.1), if_neg (by rw [h5]; decide), if_pos ⟨h6, h3⟩]
            refine ⟨k + 1, by omega, by omega, rfl, ?_⟩
            rw [hst]
            refine ⟨?_, ?_, rfl⟩ <;> repeat' (first | exact trivial | exact entV_refl _ | exact (fun _ _ _ _ h => h) | apply And.intro)
            all_goals first
              | rfl
              | exact wrap_succ (by omega)
              | (refine entLL_of_eq ?_
                 rw [spClose, List.map_set]
                 rfl)
          · conv => whnf
            have h6 : ¬ e.kind = 11 := by simpa using h6
            have hst : spSt l (k + 1) = spSt l k := by
              rw [hs, spStep, if_neg (fun h => by rw [h5] at h; cases h.1), if_neg (by rw [h5]; decide), if_neg (fun h => h6 h.1)]
            refine ⟨k + 1, by omega, by omega, rfl, ?_⟩
            rw [hst]
            refine ⟨?_, ?_, rfl⟩ <;> repeat' (first | exact trivial | exact entV_refl _ | exact entLL_refl _ | exact (fun _ _ _ _ h => h) | apply And.intro)
            all_goals first
              | rfl
              | exact wrap_succ (by omega)
      · have h3 : kyOf e.tx e.p ∉ (spSt l k).dom := h3
        conv => whnf
        refine drawx_pure tab_ok (by kernel_rfl) (by kernel_rfl) ?_
        conv => whnf
        refine callp_tells (gets_fn e) rfl trivial ?_
        conv => whnf
        refine And.intro (fun h5 => ?_) (fun h5 => ?_)
        · conv => whnf
          refine callx_as (.c .bt) (gets_fn e) rfl h5 trivial ?_
          conv => whnf
          refine opx_update tab_ok rfl rfl rfl rfl rfl rfl rfl rfl rfl ?_
          conv => whnf
          refine ⟨by simp only [List.length_map, List.length_set, List.length_cons, List.length_nil]; omega, ?_⟩
          conv => whnf
          have hst : spSt l (k + 1) = ⟨(spSt l k).out ++ [⟨e.tx, e.p, e.mode, k, -1⟩], insD (spSt l k).dom (kyOf e.tx e.p), fun q => if q = kyOf e.tx e.p then (spSt l k).out.length else (spSt l k).idx q⟩ := by
            rw [hs, spStep, if_neg (fun h => h3 h.2.1), if_pos h5, if_neg h3]
          refine ⟨k + 1, by omega, by omega, rfl, ?_⟩
          rw [hst]
          refine ⟨?_, ?_, rfl⟩ <;> repeat' (first | exact trivial | exact entV_refl _ | apply And.intro)
          all_goals try first
            | rfl
            | exact wrap_succ (by omega)
            | exact mapA_le rfl (fun q _ => by
                simp only [updV, List.length_map]
                split <;> rfl)
          rw [List.map_append]
          refine entLL_append (entLL_refl _) ?_
          repeat' (first | exact trivial | exact ⟨rfl, rfl⟩ | exact entC_refl _ | apply And.intro)
        · conv => whnf
          refine callx_as (.c .bf) (gets_fn e) rfl h5 trivial ?_
          conv => whnf
          have hst : spSt l (k + 1) = spSt l k := by
            rw [hs, spStep, if_neg (fun h => by rw [h5] at h; cases h.1), if_neg (by rw [h5]; decide), if_neg (fun h => h3 h.2)]
          refine And.intro (fun h6 => ?_) (fun h6 => ?_)
          all_goals
            conv => whnf
            refine ⟨k + 1, by omega, by omega, rfl, ?_⟩
            rw [hst]
            refine ⟨?_, ?_, rfl⟩ <;> repeat' (first | exact trivial | exact entV_refl _ | exact entLL_refl _ | exact (fun _ _ _ _ h => h) | apply And.intro)
            all_goals first
              | rfl
              | exact wrap_succ (by omega)
    · conv => whnf
      simp only [decide_eq_false_iff_not] at h1
      have e : k = l.length := by omega
      subst e
      exact row_ent rfl
end Go.Proofs.Ytcagncomnjeinaa
