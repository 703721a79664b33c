/- op.Of: the operation with whose bytes others begin. -/
import Derived.Test.YtbhmplbckkipjaaOps
namespace Go.Proofs.Ytbhmplbckkipjaa
open Go Go.Eng Go.RowKit
set_option maxRecDepth 100000
set_option maxHeartbeats 4000000
set_option linter.unusedVariables false
set_option linter.unusedSimpArgs false
theorem byte1 {x : Int} (h : 0 ≤ x ∧ x ≤ 255) : IntKind.i64.wrap (IntKind.i64.wrap (0 * 2 ^ min (Int.toNat 8) IntKind.i64.bits) + IntKind.i64.wrap x) = x := by
  simp only [IntKind.wrap_i64]; omega
theorem byte2 {v x : Int} (hv : 0 ≤ v ∧ v ≤ 16777215) (h : 0 ≤ x ∧ x ≤ 255) : IntKind.i64.wrap (IntKind.i64.wrap (v * 2 ^ min (Int.toNat 8) IntKind.i64.bits) + IntKind.i64.wrap x) = v * 256 + x := by
  have e : (2 : Int) ^ min (Int.toNat 8) IntKind.i64.bits = 256 := by decide
  rw [e]
  simp only [IntKind.wrap_i64]; omega
theorem kind8 {v : Int} : v.fdiv (2 ^ min (Int.toNat 3) IntKind.i64.bits) = v / 8 := by
  have e : (2 : Int) ^ min (Int.toNat 3) IntKind.i64.bits = 8 := by decide
  rw [e, Int.fdiv_eq_ediv_of_nonneg _ (by omega)]
theorem and7 {v : Int} (hv : 0 ≤ v ∧ v ≤ 255) : bits BinOp.and IntKind.i64 v 7 = v % 8 := by
  obtain ⟨m, rfl⟩ : ∃ m : Nat, v = m := ⟨v.toNat, by omega⟩
  have key : ∀ m : Fin 256, bits BinOp.and IntKind.i64 (m.val : Int) 7 = (m.val : Int) % 8 := by decide +kernel
  exact key ⟨m, by omega⟩
/-- The i-th byte. -/
abbrev at8 (l : List Int) (i : Nat) : Int := l.getD i 0
def Bytes (l : List Int) : Prop := ∀ i, 0 ≤ at8 l i ∧ at8 l i ≤ 255
def be2 (l : List Int) (i : Nat) : Int := at8 l i * 256 + at8 l (i + 1)
def be4 (l : List Int) (i : Nat) : Int := ((at8 l i * 256 + at8 l (i + 1)) * 256 + at8 l (i + 2)) * 256 + at8 l (i + 3)
def dpI (l : List Int) : Int := at8 l 0 % 8
def kdI (l : List Int) : Int := at8 l 0 / 8
def sizeI (l : List Int) : Int := 1 + 2 * dpI l + if kdI l = 4 then 4 else 0
def opOf (l : List Int) : Opr := ⟨kdI l, ⟨if 0 < dpI l then be2 l 1 else 0, if 1 < dpI l then be2 l 3 else 0, if 2 < dpI l then be2 l 5 else 0, if 3 < dpI l then be2 l 7 else 0, dpI l⟩, if kdI l = 4 then be4 l (1 + 2 * (dpI l).toNat) else 0⟩
def Good (l : List Int) : Prop := l ≠ [] ∧ sizeI l ≤ l.length ∧ OkP (opOf l)
instance (l : List Int) : Decidable (Good l) := by unfold Good; infer_instance
def ofR (l : List Int) : Opr × Int × Int := if Good l then (opOf l, sizeI l, 0) else (default, 0, 60)
theorem bytes_ent {n : Nat} {f : Nat → Nat → XC} {r : List Int} (hn : n = r.length) (h : ∀ i, i < n → f i 0 = .i .u8 (r.getD i 0)) : entC (.rs n 1 f) (bytesX r) := by
  refine ⟨hn, rfl, fun i hi j hj => entC_of_eq ?_⟩
  obtain rfl : j = 0 := by omega
  exact h i (hn ▸ hi)
theorem at8_drop (l : List Int) (k i : Nat) : at8 (l.drop k) i = at8 l (k + i) := by
  show (l.drop k).getD i 0 = l.getD (k + i) 0
  rw [List.getD_eq_getElem?_getD, List.getD_eq_getElem?_getD, List.getElem?_drop]
theorem bs_drop (r : List Int) (k : Nat) : entC (.rs (r.length - k) 1 (fun i => (fun i (_ : Nat) => .i .u8 (r.getD i 0)) (k + i))) (bytesX (r.drop k)) :=
  bytes_ent (by simp) fun i hi => by
    show XC.i .u8 (at8 r (k + i)) = XC.i .u8 (at8 (r.drop k) i)
    rw [at8_drop]
theorem bs_drop2 (r : List Int) : entC (.rs (r.length - 1 - 1) 1 (fun i => (fun i => (fun i (_ : Nat) => .i .u8 (r.getD i 0)) (1 + i)) (1 + i))) (bytesX (r.drop 2)) :=
  bytes_ent (by simp [Nat.sub_sub]) fun i hi => by
    show XC.i .u8 (at8 r (1 + (1 + i))) = XC.i .u8 (at8 (r.drop 2) i)
    rw [at8_drop, ← Nat.add_assoc]
theorem bs_drop4 (r : List Int) : entC (.rs (r.length - 1 - 1 - 1 - 1) 1 (fun i => (fun i => (fun i => (fun i => (fun i (_ : Nat) => .i .u8 (r.getD i 0)) (1 + i)) (1 + i)) (1 + i)) (1 + i))) (bytesX (r.drop 4)) :=
  bytes_ent (by simp [Nat.sub_sub]) fun i hi => by
    show XC.i .u8 (at8 r (1 + (1 + (1 + (1 + i))))) = XC.i .u8 (at8 (r.drop 4) i)
    rw [at8_drop, ← Nat.add_assoc, ← Nat.add_assoc, ← Nat.add_assoc]
structure OI (l : List Int) (k : Nat) (r : List Int) (bad : Bool) (p : Pth) : Prop where
  k4 : k ≤ 4
  kd : (k : Int) ≤ dpI l
  n : p.n = dpI l
  by_ : Bytes r
  ok : bad = false → r = l.drop (1 + 2 * k) ∧ 1 + 2 * k ≤ l.length ∧ p.a = (if 0 < k then be2 l 1 else 0) ∧ p.b = (if 1 < k then be2 l 3 else 0) ∧ p.c = (if 2 < k then be2 l 5 else 0) ∧ p.d = (if 3 < k then be2 l 7 else 0)
  no : bad = true → r = [] ∧ (l = [] ∨ (l.length : Int) < 1 + 2 * dpI l)
def setN (p : Pth) (k : Nat) (v : Int) : Pth :=
  match k with
  | 0 => { p with a := v }
  | 1 => { p with b := v }
  | 2 => { p with c := v }
  | _ => { p with d := v }
theorem setN_n (p : Pth) (k : Nat) (v : Int) : (setN p k v).n = p.n := by
  unfold setN; split <;> rfl
theorem OI.short {l : List Int} {k : Nat} {r : List Int} {bad : Bool} {p : Pth} (h : OI l k r bad p) (hk : (k : Int) < dpI l) (h4 : k < 4) (hr : r.length ≤ 1) : OI l (k + 1) [] true (setN p k 0) := by
  refine ⟨by omega, by omega, by rw [setN_n]; exact h.n, (fun i => by simp [at8]), (fun e => by cases e), fun _ => ⟨rfl, ?_⟩⟩
  cases bad with
  | true => exact (h.no rfl).2
  | false =>
    obtain ⟨h1, h2, _⟩ := h.ok rfl
    have := congrArg List.length h1
    rw [List.length_drop] at this
    right; omega
theorem OI.next {l : List Int} {k : Nat} {r : List Int} {bad : Bool} {p : Pth} (h : OI l k r bad p) (hk : (k : Int) < dpI l) (h4 : k < 4) (hr : 2 ≤ r.length) : OI l (k + 1) (r.drop 2) bad (setN p k (at8 r 0 * 256 + at8 r 1)) := by
  refine ⟨by omega, by omega, by rw [setN_n]; exact h.n, (fun i => by rw [at8_drop]; exact h.by_ _), (fun e => ?_), fun e => ?_⟩
  · obtain ⟨h1, h2, h3, h4', h5, h6⟩ := h.ok e
    have hlen := congrArg List.length h1
    rw [List.length_drop] at hlen
    have e0 : at8 r 0 * 256 + at8 r 1 = be2 l (1 + 2 * k) := by rw [h1, at8_drop, at8_drop]; rfl
    refine ⟨by rw [h1, List.drop_drop, Nat.mul_succ]; rfl, by omega, ?_⟩
    rw [e0]
    have hk' : k = 0 ∨ k = 1 ∨ k = 2 ∨ k = 3 := by omega
    rcases hk' with rfl | rfl | rfl | rfl <;> simp_all [setN]
  · have := (h.no e).1
    rw [this] at hr; simp at hr
theorem OkP.n4 {o : Opr} (h : OkP o) : o.p.n ≤ 4 := by
  rcases h with ⟨_, h, _⟩ | ⟨_, h, _⟩ | ⟨_, h, _⟩ | ⟨_, h, _⟩
  · omega
  · exact h.2.1
  · exact h.2.1
  · exact h.2.1
theorem Good.n4 {l : List Int} (h : Good l) : dpI l ≤ 4 := h.2.2.n4
structure TI (l r : List Int) (bad : Bool) (o : Opr) : Prop where
  ok : bad = false → l ≠ [] ∧ ((dpI l ≤ 4 ∧ o = opOf l ∧ (r.length : Int) = l.length - sizeI l) ∨ (4 < dpI l ∧ o.p.n = dpI l))
  no : bad = true → ¬ Good l
theorem OI.bad {l : List Int} {k : Nat} {r : List Int} {p : Pth} (h : OI l k r true p) : ¬ Good l := fun g => by
  obtain ⟨g1, g2, g3⟩ := g
  rcases (h.no rfl).2 with h1 | h1
  · exact g1 h1
  · unfold sizeI at g2; split at g2 <;> omega
theorem OI.path {l : List Int} {k : Nat} {r : List Int} {p : Pth} (h : OI l k r false p) (hd : (k : Int) = dpI l) : p = (opOf l).p ∧ (r.length : Int) = l.length - (1 + 2 * dpI l) ∧ r = l.drop (1 + 2 * k) := by
  obtain ⟨h1, h2, h3, h4, h5, h6⟩ := h.ok rfl
  refine ⟨Pth.eq_iff.2 ⟨?_, ?_, ?_, ?_, h.n⟩, ?_, h1⟩
  · rw [h3]; simp only [opOf]; split <;> split <;> first | rfl | omega
  · rw [h4]; simp only [opOf]; split <;> split <;> first | rfl | omega
  · rw [h5]; simp only [opOf]; split <;> split <;> first | rfl | omega
  · rw [h6]; simp only [opOf]; split <;> split <;> first | rfl | omega
  · have := congrArg List.length h1
    rw [List.length_drop] at this
    omega
theorem OI.ne {l : List Int} {k : Nat} {r : List Int} {p : Pth} (h : OI l k r false p) : l ≠ [] := fun e => by
  have := (h.ok rfl).2.1
  rw [e] at this; simp at this
theorem TI.same {l : List Int} {k : Nat} {r : List Int} {bad : Bool} {p : Pth} (h : OI l k r bad p) (hex : dpI l ≤ k ∨ k = 4) (hkd : kdI l ≠ 4) : TI l r bad ⟨kdI l, p, 0⟩ := by
  cases bad with
  | true => exact ⟨(fun e => by cases e), fun _ => h.bad⟩
  | false =>
    refine ⟨fun _ => ⟨h.ne, ?_⟩, (fun e => by cases e)⟩
    by_cases hd : dpI l ≤ 4
    · have hk : (k : Int) = dpI l := by have := h.kd; omega
      obtain ⟨h1, h2, _⟩ := h.path hk
      refine .inl ⟨hd, Opr.eq_iff.2 ⟨rfl, h1, ?_⟩, ?_⟩
      · simp [opOf, hkd]
      · rw [h2]; simp [sizeI, hkd]
    · exact .inr ⟨by omega, h.n⟩
theorem TI.fail {l : List Int} {k : Nat} {r : List Int} {bad : Bool} {p : Pth} (h : OI l k r bad p) (hex : dpI l ≤ k ∨ k = 4) (hkd : kdI l = 4) (hr : r.length ≤ 3) (o : Opr) : TI l [] true o := by
  refine ⟨(fun e => by cases e), fun _ g => ?_⟩
  cases bad with
  | true => exact h.bad g
  | false =>
    have hd := g.n4
    have hk : (k : Int) = dpI l := by have := h.kd; omega
    obtain ⟨_, h2, _⟩ := h.path hk
    have := g.2.1
    simp only [sizeI, hkd, if_true] at this
    omega
theorem TI.more {l : List Int} {k : Nat} {r : List Int} {bad : Bool} {p : Pth} (h : OI l k r bad p) (hex : dpI l ≤ k ∨ k = 4) (hkd : kdI l = 4) (hr : 4 ≤ r.length) : TI l (r.drop 4) bad ⟨kdI l, p, be4 r 0⟩ := by
  cases bad with
  | true => exact ⟨(fun e => by cases e), fun _ => h.bad⟩
  | false =>
    refine ⟨fun _ => ⟨h.ne, ?_⟩, (fun e => by cases e)⟩
    by_cases hd : dpI l ≤ 4
    · have hk : (k : Int) = dpI l := by have := h.kd; omega
      obtain ⟨h1, h2, h3⟩ := h.path hk
      refine .inl ⟨hd, Opr.eq_iff.2 ⟨rfl, h1, ?_⟩, ?_⟩
      · have hk' : (dpI l).toNat = k := by omega
        simp only [opOf, hkd, if_true, hk', be4]
        rw [h3, at8_drop, at8_drop, at8_drop, at8_drop]; rfl
      · simp only [sizeI, hkd, if_true, List.length_drop]; omega
    · exact .inr ⟨by omega, h.n⟩
theorem opOf_fn (l : List Int) (hl : l.length ≤ 1000000) (hb : Bytes l) : Eng.Fn Try.prog 74 [.c (bytesX l)] (Tells (.t [.a (encO (ofR l).1), .c (.i .i64 (ofR l).2.1), .c (.i .i64 (ofR l).2.2)])) := by
  refine Eng.Fn.ofJ tab_ok [2] Try.func74 (by kernel_rfl) (by kernel_rfl) (fun w0 => ?_)
  have hb0 : 0 ≤ at8 l 0 ∧ at8 l 0 ≤ 255 := hb 0
  conv => whnf
  refine seqx_upto tab_ok 5 [9] (fun (i : List Int × Bool) => OI l 0 i.1 i.2 ⟨0, 0, 0, 0, dpI l⟩) (fun i => [(0, .c (bytesX l)), (2, .c (.p 0 0)), (5, .c (.p 1 0)), (7, .c (.p 3 0))])
    (fun i => [.cells 37 (encO default), .cells 158 [bytesX i.1, .b i.2], .dead, .cells 37 (encO ⟨kdI l, ⟨0, 0, 0, 0, dpI l⟩, 0⟩)]) 63 ?_ (fun i hi => ?_)
  · refine callx_lit ?_
    refine callx_inline tab_ok Try.func113 (by kernel_rfl) (by kernel_rfl) (fun vs => ?_)
    conv => whnf
    refine scopex_rounds tab_ok 0 5 rfl ?_
    conv => whnf
    refine And.intro (fun h1 => ?_) (fun h1 => ?_)
    · conv => whnf
      refine ⟨rfl, ?_⟩
      conv => whnf
      have h2 : l = [] := List.eq_nil_of_length_eq_zero (by simpa using h1)
      subst h2
      refine ⟨([], true), ⟨by omega, by decide, rfl, (fun i => by simp [at8]), (fun h => by cases h), fun _ => ⟨rfl, .inl rfl⟩⟩, rfl, ?_⟩
      refine ⟨?_, ?_, rfl⟩ <;> repeat' (first | exact trivial | exact entV_refl _ | exact bytes_ent rfl (fun _ _ => rfl) | exact rfl | exact ⟨rfl, rfl⟩ | apply And.intro)
    · conv => whnf
      have h2 : 0 < l.length := by have : ¬ (l.length : Int) = 0 := by simpa using h1
                                   omega
      refine And.intro (by omega) ?_
      conv => whnf
      refine And.intro (by omega) ?_
      conv => whnf
      have e0 : IntKind.i64.wrap (IntKind.i64.wrap (0 * 2 ^ min (Int.toNat 8) IntKind.i64.bits) + IntKind.i64.wrap (l.getD (Int.toNat 0) 0)) = at8 l 0 := byte1 hb0
      rw [e0]
      refine ⟨rfl, ?_⟩
      conv => whnf
      refine ⟨(l.drop 1, false), ⟨by omega, by unfold dpI; omega, rfl, (fun i => by rw [at8_drop]; exact hb _), (fun h => ⟨rfl, by omega, rfl, rfl, rfl, rfl⟩), (fun h => by cases h)⟩, rfl, ?_⟩
      refine ⟨?_, ?_, rfl⟩ <;> repeat' (first | exact trivial | exact entV_refl _ | exact bs_drop _ _ | exact rfl | exact ⟨rfl, rfl⟩ | exact ⟨rfl, kind8⟩ | exact ⟨rfl, and7 hb0⟩ | apply And.intro)
  · obtain ⟨r0, bad0⟩ := i
    have hi : OI l 0 r0 bad0 ⟨0, 0, 0, 0, dpI l⟩ := hi
    conv => whnf
    refine loopi tab_ok (fun (i : Nat × List Int × Bool × Pth) => OI l i.1 i.2.1 i.2.2.1 i.2.2.2) (fun i => [(0, .c (bytesX l)), (2, .c (.p 0 0)), (5, .c (.p 1 0)), (7, .c (.p 3 0)), (8, .c (.i .i64 i.1))])
      (fun i => [.cells 37 (encO default), .cells 158 [bytesX i.2.1, .b i.2.2.1], .dead, .cells 37 (encO ⟨kdI l, i.2.2.2, 0⟩)]) (fun i => 4 - i.1) (0, r0, bad0, ⟨0, 0, 0, 0, dpI l⟩) 63 rfl hi ?_ (fun i hi => ?_)
    · refine ⟨?_, ?_, rfl⟩ <;> repeat' (first | exact trivial | exact entV_refl _ | exact entC_refl _ | exact rfl | exact ⟨rfl, rfl⟩ | apply And.intro)
    · obtain ⟨k, r, bad, p⟩ := i
      have hi : OI l k r bad p := hi
      obtain ⟨k4, kd, hn, hby, hok, hno⟩ := hi
      dsimp only
      conv => whnf
      refine And.intro (fun h1 => ?_) (fun h1 => ?_)
      · conv => whnf
        refine And.intro (fun h2 => ?_) (fun h2 => ?_)
        · have h1 : (k : Int) < p.n := by simpa using h1
          have h2 : (k : Int) < 4 := by simpa using h2
          have hk : k = 0 ∨ k = 1 ∨ k = 2 ∨ k = 3 := by omega
          have hOI : OI l k r bad p := ⟨k4, kd, hn, hby, hok, hno⟩
          have hS := hOI.short (by omega) (by omega)
          have hN := hOI.next (by omega) (by omega)
          obtain ⟨kk, hkk⟩ : ∃ kk, kk = k := ⟨k, rfl⟩
          rw [← hkk] at hS hN
          rcases hk with rfl | rfl | rfl | rfl
          all_goals
            conv => whnf
            refine callx_lit ?_
            refine callx_inline tab_ok Try.func113 (by kernel_rfl) (by kernel_rfl) (fun vs => ?_)
            conv => whnf
            refine scopex_rounds tab_ok 0 5 rfl ?_
            conv => whnf
          all_goals
            refine And.intro (fun h3 => ?_) (fun h3 => ?_)
            · conv => whnf
              refine ⟨rfl, ?_⟩
              conv => whnf
              refine And.intro (by omega) ?_
              conv => whnf
              have hr0 : r.length = 0 := by
                have : (r.length : Int) = 0 := by simpa using h3
                omega
              refine ⟨(kk + 1, [], true, setN p kk 0), hS (by omega), by dsimp only; omega, rfl, ?_⟩
              subst hkk
              refine ⟨?_, ?_, rfl⟩ <;> repeat' (first | exact trivial | exact entV_refl _ | exact bytes_ent hr0 (fun i hi => by omega) | exact rfl | exact ⟨rfl, rfl⟩ | apply And.intro)
            · conv => whnf
              have h4 : 0 < r.length := by
                have : ¬ (r.length : Int) = 0 := by simpa using h3
                omega
              refine And.intro (by omega) ?_
              conv => whnf
              refine And.intro (by omega) ?_
              conv => whnf
              refine seqx_go tab_ok ?_
              conv => whnf
              refine And.intro (fun h5 => ?_) (fun h5 => ?_)
              · conv => whnf
                refine ⟨rfl, ?_⟩
                conv => whnf
                refine And.intro (by omega) ?_
                conv => whnf
                have hr1 : r.length - Int.toNat 1 = 0 := by
                  have : ((r.length - Int.toNat 1 : Nat) : Int) = 0 := by simpa using h5
                  omega
                refine ⟨(kk + 1, [], true, setN p kk 0), hS (by have : Int.toNat 1 = 1 := rfl
                                                                omega), by dsimp only; omega, rfl, ?_⟩
                subst hkk
                refine ⟨?_, ?_, rfl⟩ <;> repeat' (first | exact trivial | exact entV_refl _ | exact bytes_ent hr1 (fun i hi => by omega) | exact rfl | exact ⟨rfl, rfl⟩ | apply And.intro)
              · conv => whnf
                have h6 : 2 ≤ r.length := by
                  have : ¬ ((r.length - Int.toNat 1 : Nat) : Int) = 0 := by simpa using h5
                  have : Int.toNat 1 = 1 := rfl
                  omega
                refine And.intro (by omega) ?_
                conv => whnf
                refine And.intro (by omega) ?_
                conv => whnf
                refine seqx_go tab_ok ?_
                conv => whnf
                have e0 : IntKind.i64.wrap (IntKind.i64.wrap (0 * 2 ^ min (Int.toNat 8) IntKind.i64.bits) + IntKind.i64.wrap (r.getD (Int.toNat 0) 0)) = at8 r 0 := byte1 (hby 0)
                have e1 : IntKind.i64.wrap (IntKind.i64.wrap (at8 r 0 * 2 ^ min (Int.toNat 8) IntKind.i64.bits) + IntKind.i64.wrap (r.getD (Int.toNat 1 + Int.toNat 0) 0)) = at8 r 0 * 256 + at8 r 1 := byte2 (by have := hby 0; omega) (hby 1)
                refine ⟨rfl, ?_⟩
                conv => whnf
                refine And.intro (by omega) ?_
                conv => whnf
                rw [e0, e1]
                refine ⟨(kk + 1, r.drop 2, bad, setN p kk (at8 r 0 * 256 + at8 r 1)), hN h6, by dsimp only; omega, rfl, ?_⟩
                subst hkk
                refine ⟨?_, ?_, rfl⟩ <;> repeat' (first | exact trivial | exact entV_refl _ | exact bs_drop2 _ | exact rfl | exact ⟨rfl, rfl⟩ | apply And.intro)
        · have h2 : ¬ (k : Int) < 4 := by simpa using h2
          have hex : dpI l ≤ k ∨ k = 4 := by omega
          have hOI : OI l k r bad p := ⟨k4, kd, hn, hby, hok, hno⟩
          conv => whnf
          refine seqx_upto tab_ok 11 [] (fun (i : List Int × Bool × Opr) => TI l i.1 i.2.1 i.2.2) (fun i => [(0, .c (bytesX l)), (2, .c (.p 0 0)), (5, .c (.p 1 0)), (7, .c (.p 3 0))])
            (fun i => [.cells 37 (encO default), .cells 158 [bytesX i.1, .b i.2.1], .dead, .cells 37 (encO i.2.2)]) 63 ?_ (fun i hi => ?_)
          · conv => whnf
            refine And.intro (fun h6 => ?_) (fun h6 => ?_)
            · have h6 : kdI l = 4 := by simpa using h6
              have hF := TI.fail hOI hex h6
              have hM := TI.more hOI hex h6
              conv => whnf
              refine callx_lit ?_
              refine callx_inline tab_ok Try.func113 (by kernel_rfl) (by kernel_rfl) (fun vs => ?_)
              conv => whnf
              refine scopex_rounds tab_ok 0 5 rfl ?_
              conv => whnf
              have t1 : Int.toNat 1 = 1 := rfl
              refine And.intro (fun g1 => ?_) (fun g1 => ?_)
              · have g1 : r.length = 0 := by simpa using g1
                conv => whnf
                refine ⟨rfl, ?_⟩
                conv => whnf
                refine ⟨([], true, ⟨kdI l, p, 0⟩), hF (by omega) _, rfl, ?_⟩
                refine ⟨?_, ?_, rfl⟩ <;> repeat' (first | exact trivial | exact entV_refl _ | exact bytes_ent g1 (fun i hi => by omega) | exact rfl | exact ⟨rfl, rfl⟩ | apply And.intro)
              have g1 : ¬ r.length = 0 := by simpa using g1
              conv => whnf
              refine And.intro (by omega) ?_
              conv => whnf
              refine And.intro (by omega) ?_
              conv => whnf
              refine And.intro (fun g2 => ?_) (fun g2 => ?_)
              · have g2 : r.length - Int.toNat 1 = 0 := by simpa using g2
                conv => whnf
                refine ⟨rfl, ?_⟩
                conv => whnf
                refine ⟨([], true, ⟨kdI l, p, 0⟩), hF (by omega) _, rfl, ?_⟩
                refine ⟨?_, ?_, rfl⟩ <;> repeat' (first | exact trivial | exact entV_refl _ | exact bytes_ent g2 (fun i hi => by omega) | exact rfl | exact ⟨rfl, rfl⟩ | apply And.intro)
              have g2 : ¬ r.length - Int.toNat 1 = 0 := by simpa using g2
              conv => whnf
              refine And.intro (by omega) ?_
              conv => whnf
              refine And.intro (by omega) ?_
              conv => whnf
              refine And.intro (fun g3 => ?_) (fun g3 => ?_)
              · have g3 : r.length - Int.toNat 1 - Int.toNat 1 = 0 := by simpa using g3
                conv => whnf
                refine ⟨rfl, ?_⟩
                conv => whnf
                refine ⟨([], true, ⟨kdI l, p, 0⟩), hF (by omega) _, rfl, ?_⟩
                refine ⟨?_, ?_, rfl⟩ <;> repeat' (first | exact trivial | exact entV_refl _ | exact bytes_ent g3 (fun i hi => by omega) | exact rfl | exact ⟨rfl, rfl⟩ | apply And.intro)
              have g3 : ¬ r.length - Int.toNat 1 - Int.toNat 1 = 0 := by simpa using g3
              conv => whnf
              refine And.intro (by omega) ?_
              conv => whnf
              refine And.intro (by omega) ?_
              conv => whnf
              refine And.intro (fun g4 => ?_) (fun g4 => ?_)
              · have g4 : r.length - Int.toNat 1 - Int.toNat 1 - Int.toNat 1 = 0 := by simpa using g4
                conv => whnf
                refine ⟨rfl, ?_⟩
                conv => whnf
                refine ⟨([], true, ⟨kdI l, p, 0⟩), hF (by omega) _, rfl, ?_⟩
                refine ⟨?_, ?_, rfl⟩ <;> repeat' (first | exact trivial | exact entV_refl _ | exact bytes_ent g4 (fun i hi => by omega) | exact rfl | exact ⟨rfl, rfl⟩ | apply And.intro)
              have g4 : ¬ r.length - Int.toNat 1 - Int.toNat 1 - Int.toNat 1 = 0 := by simpa using g4
              conv => whnf
              refine And.intro (by omega) ?_
              conv => whnf
              refine And.intro (by omega) ?_
              conv => whnf
              have b0 := hby 0
              have b1 := hby 1
              have b2 := hby 2
              have e0 : IntKind.i64.wrap (IntKind.i64.wrap (0 * 2 ^ min (Int.toNat 8) IntKind.i64.bits) + IntKind.i64.wrap (r.getD (Int.toNat 0) 0)) = at8 r 0 := byte1 (hby 0)
              have e1 : IntKind.i64.wrap (IntKind.i64.wrap (at8 r 0 * 2 ^ min (Int.toNat 8) IntKind.i64.bits) + IntKind.i64.wrap (r.getD (Int.toNat 1 + Int.toNat 0) 0)) = at8 r 0 * 256 + at8 r 1 := byte2 (by omega) (hby 1)
              have e2 : IntKind.i64.wrap (IntKind.i64.wrap ((at8 r 0 * 256 + at8 r 1) * 2 ^ min (Int.toNat 8) IntKind.i64.bits) + IntKind.i64.wrap (r.getD (Int.toNat 1 + (Int.toNat 1 + Int.toNat 0)) 0)) = (at8 r 0 * 256 + at8 r 1) * 256 + at8 r 2 := byte2 (by omega) (hby 2)
              have e3 : IntKind.i64.wrap (IntKind.i64.wrap (((at8 r 0 * 256 + at8 r 1) * 256 + at8 r 2) * 2 ^ min (Int.toNat 8) IntKind.i64.bits) + IntKind.i64.wrap (r.getD (Int.toNat 1 + (Int.toNat 1 + (Int.toNat 1 + Int.toNat 0))) 0)) = be4 r 0 := byte2 (by omega) (hby 3)
              refine ⟨rfl, ?_⟩
              conv => whnf
              rw [e0, e1, e2, e3]
              refine ⟨(r.drop 4, bad, ⟨kdI l, p, be4 r 0⟩), hM (by omega), rfl, ?_⟩
              refine ⟨?_, ?_, rfl⟩ <;> repeat' (first | exact trivial | exact entV_refl _ | exact bs_drop4 _ | exact rfl | exact ⟨rfl, rfl⟩ | apply And.intro)
            · have h6 : ¬ kdI l = 4 := by simpa using h6
              have hT := TI.same hOI hex h6
              conv => whnf
              refine ⟨(r, bad, ⟨kdI l, p, 0⟩), hT, rfl, ?_⟩
              refine ⟨?_, ?_, rfl⟩ <;> repeat' (first | exact trivial | exact entV_refl _ | exact entC_refl _ | exact entL_refl _ | exact rfl | exact ⟨rfl, rfl⟩ | apply And.intro)
          · obtain ⟨r2, bad2, o⟩ := i
            have hi : TI l r2 bad2 o := hi
            clear hok hno hn hby kd hOI
            dsimp only
            conv => whnf
            refine And.intro (fun g1 => ?_) (fun g1 => ?_)
            · conv => whnf
              rw [ofR, if_neg (hi.no g1)]
              repeat' (first | exact trivial | exact ⟨rfl, rfl⟩ | exact rfl | apply And.intro)
            · conv => whnf
              refine callx_tells (check_fn o) rfl trivial ?_
              conv => whnf
              refine And.intro (fun g2 => ?_) (fun g2 => ?_)
              · conv => whnf
                have g2 : ¬ OkP o := fun h => by simp [okI, h] at g2
                rw [ofR, if_neg (fun g => by
                  rcases (hi.ok g1).2 with ⟨_, h, _⟩ | ⟨h, _⟩
                  · exact g2 (h ▸ g.2.2)
                  · have := g.n4; omega)]
                repeat' (first | exact trivial | exact ⟨rfl, rfl⟩ | exact rfl | apply And.intro)
              · conv => whnf
                have g2 : OkP o := by
                  by_cases h : OkP o
                  · exact h
                  · simp [okI, h] at g2
                have g3 : Good l ∧ o = opOf l ∧ (r2.length : Int) = l.length - sizeI l := by
                  rcases (hi.ok g1).2 with ⟨_, h, h'⟩ | ⟨h, h'⟩
                  · exact ⟨⟨(hi.ok g1).1, by omega, h ▸ g2⟩, h, h'⟩
                  · have := g2.n4; omega
                obtain ⟨g3, g4, g5⟩ := g3
                refine drawx_plan tab_ok [0] (.take 0 (.take 1 (.take 2 (.take 3 (.take 4 (.take 5 (.take 6 (.take 7 (.take 8 (.one 9 (.take 10 (.take 11 .done)))))))))))) (by kernel_rfl) (by kernel_rfl) (by kernel_rfl) ?_
                conv => whnf
                rw [ofR, if_pos g3, ← g4]
                have hsz : IntKind.i64.wrap ((l.length : Int) - r2.length) = sizeI l := by
                  have h1 := g3.2.1
                  have h2 : 0 ≤ sizeI l := by unfold sizeI dpI; split <;> omega
                  rw [IntKind.wrap_i64]; omega
                rw [hsz]
                repeat' (first | exact trivial | exact ⟨rfl, rfl⟩ | exact entC_refl _ | exact rfl | apply And.intro)
      · have h1 : ¬ (k : Int) < p.n := by simpa using h1
        have hex : dpI l ≤ k ∨ k = 4 := by omega
        have hOI : OI l k r bad p := ⟨k4, kd, hn, hby, hok, hno⟩
        conv => whnf
        refine seqx_upto tab_ok 11 [] (fun (i : List Int × Bool × Opr) => TI l i.1 i.2.1 i.2.2) (fun i => [(0, .c (bytesX l)), (2, .c (.p 0 0)), (5, .c (.p 1 0)), (7, .c (.p 3 0))])
          (fun i => [.cells 37 (encO default), .cells 158 [bytesX i.1, .b i.2.1], .dead, .cells 37 (encO i.2.2)]) 63 ?_ (fun i hi => ?_)
        · conv => whnf
          refine And.intro (fun h6 => ?_) (fun h6 => ?_)
          · have h6 : kdI l = 4 := by simpa using h6
            have hF := TI.fail hOI hex h6
            have hM := TI.more hOI hex h6
            conv => whnf
            refine callx_lit ?_
            refine callx_inline tab_ok Try.func113 (by kernel_rfl) (by kernel_rfl) (fun vs => ?_)
            conv => whnf
            refine scopex_rounds tab_ok 0 5 rfl ?_
            conv => whnf
            have t1 : Int.toNat 1 = 1 := rfl
            refine And.intro (fun g1 => ?_) (fun g1 => ?_)
            · have g1 : r.length = 0 := by simpa using g1
              conv => whnf
              refine ⟨rfl, ?_⟩
              conv => whnf
              refine ⟨([], true, ⟨kdI l, p, 0⟩), hF (by omega) _, rfl, ?_⟩
              refine ⟨?_, ?_, rfl⟩ <;> repeat' (first | exact trivial | exact entV_refl _ | exact bytes_ent g1 (fun i hi => by omega) | exact rfl | exact ⟨rfl, rfl⟩ | apply And.intro)
            have g1 : ¬ r.length = 0 := by simpa using g1
            conv => whnf
            refine And.intro (by omega) ?_
            conv => whnf
            refine And.intro (by omega) ?_
            conv => whnf
            refine And.intro (fun g2 => ?_) (fun g2 => ?_)
            · have g2 : r.length - Int.toNat 1 = 0 := by simpa using g2
              conv => whnf
              refine ⟨rfl, ?_⟩
              conv => whnf
              refine ⟨([], true, ⟨kdI l, p, 0⟩), hF (by omega) _, rfl, ?_⟩
              refine ⟨?_, ?_, rfl⟩ <;> repeat' (first | exact trivial | exact entV_refl _ | exact bytes_ent g2 (fun i hi => by omega) | exact rfl | exact ⟨rfl, rfl⟩ | apply And.intro)
            have g2 : ¬ r.length - Int.toNat 1 = 0 := by simpa using g2
            conv => whnf
            refine And.intro (by omega) ?_
            conv => whnf
            refine And.intro (by omega) ?_
            conv => whnf
            refine And.intro (fun g3 => ?_) (fun g3 => ?_)
            · have g3 : r.length - Int.toNat 1 - Int.toNat 1 = 0 := by simpa using g3
              conv => whnf
              refine ⟨rfl, ?_⟩
              conv => whnf
              refine ⟨([], true, ⟨kdI l, p, 0⟩), hF (by omega) _, rfl, ?_⟩
              refine ⟨?_, ?_, rfl⟩ <;> repeat' (first | exact trivial | exact entV_refl _ | exact bytes_ent g3 (fun i hi => by omega) | exact rfl | exact ⟨rfl, rfl⟩ | apply And.intro)
            have g3 : ¬ r.length - Int.toNat 1 - Int.toNat 1 = 0 := by simpa using g3
            conv => whnf
            refine And.intro (by omega) ?_
            conv => whnf
            refine And.intro (by omega) ?_
            conv => whnf
            refine And.intro (fun g4 => ?_) (fun g4 => ?_)
            · have g4 : r.length - Int.toNat 1 - Int.toNat 1 - Int.toNat 1 = 0 := by simpa using g4
              conv => whnf
              refine ⟨rfl, ?_⟩
              conv => whnf
              refine ⟨([], true, ⟨kdI l, p, 0⟩), hF (by omega) _, rfl, ?_⟩
              refine ⟨?_, ?_, rfl⟩ <;> repeat' (first | exact trivial | exact entV_refl _ | exact bytes_ent g4 (fun i hi => by omega) | exact rfl | exact ⟨rfl, rfl⟩ | apply And.intro)
            have g4 : ¬ r.length - Int.toNat 1 - Int.toNat 1 - Int.toNat 1 = 0 := by simpa using g4
            conv => whnf
            refine And.intro (by omega) ?_
            conv => whnf
            refine And.intro (by omega) ?_
            conv => whnf
            have b0 := hby 0
            have b1 := hby 1
            have b2 := hby 2
            have e0 : IntKind.i64.wrap (IntKind.i64.wrap (0 * 2 ^ min (Int.toNat 8) IntKind.i64.bits) + IntKind.i64.wrap (r.getD (Int.toNat 0) 0)) = at8 r 0 := byte1 (hby 0)
            have e1 : IntKind.i64.wrap (IntKind.i64.wrap (at8 r 0 * 2 ^ min (Int.toNat 8) IntKind.i64.bits) + IntKind.i64.wrap (r.getD (Int.toNat 1 + Int.toNat 0) 0)) = at8 r 0 * 256 + at8 r 1 := byte2 (by omega) (hby 1)
            have e2 : IntKind.i64.wrap (IntKind.i64.wrap ((at8 r 0 * 256 + at8 r 1) * 2 ^ min (Int.toNat 8) IntKind.i64.bits) + IntKind.i64.wrap (r.getD (Int.toNat 1 + (Int.toNat 1 + Int.toNat 0)) 0)) = (at8 r 0 * 256 + at8 r 1) * 256 + at8 r 2 := byte2 (by omega) (hby 2)
            have e3 : IntKind.i64.wrap (IntKind.i64.wrap (((at8 r 0 * 256 + at8 r 1) * 256 + at8 r 2) * 2 ^ min (Int.toNat 8) IntKind.i64.bits) + IntKind.i64.wrap (r.getD (Int.toNat 1 + (Int.toNat 1 + (Int.toNat 1 + Int.toNat 0))) 0)) = be4 r 0 := byte2 (by omega) (hby 3)
            refine ⟨rfl, ?_⟩
            conv => whnf
            rw [e0, e1, e2, e3]
            refine ⟨(r.drop 4, bad, ⟨kdI l, p, be4 r 0⟩), hM (by omega), rfl, ?_⟩
            refine ⟨?_, ?_, rfl⟩ <;> repeat' (first | exact trivial | exact entV_refl _ | exact bs_drop4 _ | exact rfl | exact ⟨rfl, rfl⟩ | apply And.intro)
          · have h6 : ¬ kdI l = 4 := by simpa using h6
            have hT := TI.same hOI hex h6
            conv => whnf
            refine ⟨(r, bad, ⟨kdI l, p, 0⟩), hT, rfl, ?_⟩
            refine ⟨?_, ?_, rfl⟩ <;> repeat' (first | exact trivial | exact entV_refl _ | exact entC_refl _ | exact entL_refl _ | exact rfl | exact ⟨rfl, rfl⟩ | apply And.intro)
        · obtain ⟨r2, bad2, o⟩ := i
          have hi : TI l r2 bad2 o := hi
          clear hok hno hn hby kd hOI
          dsimp only
          conv => whnf
          refine And.intro (fun g1 => ?_) (fun g1 => ?_)
          · conv => whnf
            rw [ofR, if_neg (hi.no g1)]
            repeat' (first | exact trivial | exact ⟨rfl, rfl⟩ | exact rfl | apply And.intro)
          · conv => whnf
            refine callx_tells (check_fn o) rfl trivial ?_
            conv => whnf
            refine And.intro (fun g2 => ?_) (fun g2 => ?_)
            · conv => whnf
              have g2 : ¬ OkP o := fun h => by simp [okI, h] at g2
              rw [ofR, if_neg (fun g => by
                rcases (hi.ok g1).2 with ⟨_, h, _⟩ | ⟨h, _⟩
                · exact g2 (h ▸ g.2.2)
                · have := g.n4; omega)]
              repeat' (first | exact trivial | exact ⟨rfl, rfl⟩ | exact rfl | apply And.intro)
            · conv => whnf
              have g2 : OkP o := by
                by_cases h : OkP o
                · exact h
                · simp [okI, h] at g2
              have g3 : Good l ∧ o = opOf l ∧ (r2.length : Int) = l.length - sizeI l := by
                rcases (hi.ok g1).2 with ⟨_, h, h'⟩ | ⟨h, h'⟩
                · exact ⟨⟨(hi.ok g1).1, by omega, h ▸ g2⟩, h, h'⟩
                · have := g2.n4; omega
              obtain ⟨g3, g4, g5⟩ := g3
              refine drawx_plan tab_ok [0] (.take 0 (.take 1 (.take 2 (.take 3 (.take 4 (.take 5 (.take 6 (.take 7 (.take 8 (.one 9 (.take 10 (.take 11 .done)))))))))))) (by kernel_rfl) (by kernel_rfl) (by kernel_rfl) ?_
              conv => whnf
              rw [ofR, if_pos g3, ← g4]
              have hsz : IntKind.i64.wrap ((l.length : Int) - r2.length) = sizeI l := by
                have h1 := g3.2.1
                have h2 : 0 ≤ sizeI l := by unfold sizeI dpI; split <;> omega
                rw [IntKind.wrap_i64]; omega
              rw [hsz]
              repeat' (first | exact trivial | exact ⟨rfl, rfl⟩ | exact entC_refl _ | exact rfl | apply And.intro)
end Go.Proofs.Ytbhmplbckkipjaa
