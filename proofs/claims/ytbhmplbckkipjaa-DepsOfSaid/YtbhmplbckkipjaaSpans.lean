/- Spans: who had which lock from when to when. -/
import Derived.Test.YtbhmplbckkipjaaData
import Derived.Test.YtbhmplbckkipjaaEngY
import Derived.Test.YtbhmplbckkipjaaTab
namespace Go.Proofs.Ytbhmplbckkipjaa
open Go Go.Eng Go.RowKit
set_option maxRecDepth 100000
set_option maxHeartbeats 4000000
set_option linter.unusedVariables false
set_option linter.unusedSimpArgs false
def getsB (e : Ev) : Bool := (e.kind == 2 && e.val == 1) || e.kind == 3 || e.kind == 13
def spAtB (s : Sp) (i : Int) : Bool := decide (s.fr ≤ i) && (s.to == -1 || decide (s.to > i))
theorem wrap_succ' {k : Nat} (h : k < 9223372036854775807) : IntKind.i64.wrap ((k : Int) + 1) = ((k + 1 : Nat) : Int) := by
  rw [IntKind.wrap_i64]; omega
theorem few_fn (l : List Ev) (hl : l.length ≤ 9223372036854775807) : Eng.Fn Try.prog 61 [.c (evsX l)] (Tells (.c (.b (l.all (fun e => decide (e.rows.length ≤ 20)) && decide (l.length ≤ 30))))) := by
  refine Eng.Fn.of tab_ok Try.func61 (by kernel_rfl) (by kernel_rfl) (fun w0 => ?_)
  conv => whnf
  refine loopi tab_ok (fun k => k ≤ l.length ∧ (l.take k).all (fun e => decide (e.rows.length ≤ 20)) = true) (fun k => [(0, .c (evsX l)), (5, .c (evsX l)), (6, .c (.i .i64 l.length)), (7, .c (.i .i64 k))]) (fun k => []) (fun k => l.length - k) 0 19 rfl ⟨Nat.zero_le _, by simp⟩ ?_ (fun k hk => ?_)
  · refine ⟨?_, ?_, rfl⟩ <;> repeat' (first | exact trivial | exact entV_refl _ | apply And.intro)
    all_goals rfl
  · obtain ⟨hk, hall⟩ := hk
    conv => whnf
    refine And.intro (fun h1 => ?_) (fun h1 => ?_)
    · conv => whnf
      simp only [decide_eq_true_eq] at h1
      have h2 : k < l.length := by omega
      refine ⟨by omega, ?_⟩
      conv => whnf
      refine And.intro (fun h3 => ?_) (fun h3 => ?_)
      · conv => whnf
        simp only [decide_eq_true_eq, Int.toNat_natCast] at h3
        have : (l.all (fun e => decide (e.rows.length ≤ 20)) && decide (l.length ≤ 30)) = false := by
         refine Bool.and_eq_false_iff.2 (.inl (Bool.eq_false_iff.2 fun h4 => ?_))
         have := List.all_eq_true.1 h4 (l.getD k default) (by rw [List.getD_eq_getElem?_getD, List.getElem?_eq_getElem h2]; exact List.getElem_mem h2)
         simp only [decide_eq_true_eq] at this
         omega
        exact this
      · conv => whnf
        simp only [decide_eq_false_iff_not, Int.toNat_natCast] at h3
        refine ⟨k + 1, ⟨by omega, ?_⟩, by omega, rfl, ?_⟩
        · rw [take_succ_snoc default _ _ h2, List.all_append, hall]
          simp; simp at h3; omega
        · refine ⟨?_, ?_, rfl⟩ <;> repeat' (first | exact trivial | exact entV_refl _ | apply And.intro)
          all_goals first
            | rfl
            | exact wrap_succ' (by omega)
    · conv => whnf
      simp only [decide_eq_false_iff_not] at h1
      have e : k = l.length := by omega
      subst e
      rw [List.take_length] at hall
      rw [hall]; simp
      omega
abbrev kyOf (tx : Int) (p : Pth) : List Int := [tx, p.a, p.b, p.c, p.d, p.n]
structure SpSt where
  out : List Sp
  dom : List (List Int)
  idx : List Int → Nat
def spClose (out : List Sp) (k : Nat) (i : Nat) : List Sp := out.set k { out.getD k default with to := (i : Int) }
def spStep (s : SpSt) (i : Nat) (e : Ev) : SpSt :=
  if getsB e = true ∧ kyOf e.tx e.p ∈ s.dom ∧ (s.out.getD (s.idx (kyOf e.tx e.p)) default).mode = e.mode then s
  else if getsB e = true then
    ⟨(if kyOf e.tx e.p ∈ s.dom then spClose s.out (s.idx (kyOf e.tx e.p)) i else s.out) ++ [⟨e.tx, e.p, e.mode, i, -1⟩], insD s.dom (kyOf e.tx e.p), fun q => if q = kyOf e.tx e.p then s.out.length else s.idx q⟩
  else if e.kind = 11 ∧ kyOf e.tx e.p ∈ s.dom then ⟨spClose s.out (s.idx (kyOf e.tx e.p)) i, s.dom.erase (kyOf e.tx e.p), s.idx⟩
  else s
def spSt (l : List Ev) : Nat → SpSt
  | 0 => ⟨[], [], fun _ => 0⟩
  | k + 1 => spStep (spSt l k) k (l.getD k default)
def spOf (l : List Ev) : List Sp := (spSt l l.length).out
theorem spClose_len (out : List Sp) (k i : Nat) : (spClose out k i).length = out.length := by simp [spClose]
theorem spStep_len (s : SpSt) (i : Nat) (e : Ev) : (spStep s i e).out.length ≤ s.out.length + 1 := by
  unfold spStep
  split
  · omega
  split
  · simp only [List.length_append, List.length_cons, List.length_nil]; split <;> simp [spClose_len]
  split
  · simp [spClose_len]
  · omega
theorem spSt_len (l : List Ev) : ∀ k, (spSt l k).out.length ≤ k
  | 0 => Nat.le_refl _
  | k + 1 => by
    have := spSt_len l k
    have := spStep_len (spSt l k) k (l.getD k default)
    unfold spSt; omega
/-- What is open lies in the list. -/
def SpIn (s : SpSt) : Prop := s.dom.Nodup ∧ ∀ q ∈ s.dom, s.idx q < s.out.length
theorem spStep_in {s : SpSt} {i : Nat} {e : Ev} (h : SpIn s) : SpIn (spStep s i e) := by
  unfold spStep
  split
  · exact h
  split
  · refine ⟨?_, fun q hq => ?_⟩
    · unfold insD; split
      · exact h.1
      · exact nodup_snoc h.1 ‹_›
    · have hl : (if kyOf e.tx e.p ∈ s.dom then spClose s.out (s.idx (kyOf e.tx e.p)) i else s.out).length = s.out.length := by split <;> simp [spClose_len]
      simp only [List.length_append, List.length_cons, List.length_nil, hl]
      split
      · omega
      · have : q ∈ s.dom := by
          unfold insD at hq
          split at hq
          · exact hq
          · rcases List.mem_append.1 hq with h1 | h1
            · exact h1
            · simp at h1; exact absurd h1 ‹_›
        have := h.2 q this
        omega
  split
  · exact ⟨h.1.erase _, fun q hq => by rw [spClose_len]; exact h.2 q (List.mem_of_mem_erase hq)⟩
  · exact h
theorem spSt_in (l : List Ev) : ∀ k, SpIn (spSt l k)
  | 0 => ⟨by simp [spSt], by simp [spSt]⟩
  | k + 1 => spStep_in (spSt_in l k)
end Go.Proofs.Ytbhmplbckkipjaa
