/- The program's data: nodes, rows, events, spans, operations, as rows of cells. Nothing of any program is proved here. -/
import Derived.Test.YtehbalkhboedeaaNum
namespace Go.Eng
open Go Go.RowKit
set_option linter.unusedVariables false
structure Pth where
  a : Int
  b : Int
  c : Int
  d : Int
  n : Int
theorem Pth.eq_iff {p q : Pth} : p = q ↔ p.a = q.a ∧ p.b = q.b ∧ p.c = q.c ∧ p.d = q.d ∧ p.n = q.n := by
  cases p; cases q; simp
instance : DecidableEq Pth := fun p q => decidable_of_iff _ Pth.eq_iff.symm
instance : Inhabited Pth := ⟨⟨0, 0, 0, 0, 0⟩⟩
def encP (p : Pth) : List XC := [.i .i64 p.a, .i .i64 p.b, .i .i64 p.c, .i .i64 p.d, .i .i64 p.n]
structure Rw where
  p : Pth
  v : Int
theorem Rw.eq_iff {p q : Rw} : p = q ↔ p.p = q.p ∧ p.v = q.v := by cases p; cases q; simp
instance : DecidableEq Rw := fun p q => decidable_of_iff _ Rw.eq_iff.symm
instance : Inhabited Rw := ⟨⟨default, 0⟩⟩
def encR (r : Rw) : List XC := [.i .i64 r.p.a, .i .i64 r.p.b, .i .i64 r.p.c, .i .i64 r.p.d, .i .i64 r.p.n, .i .i64 r.v]
structure Ev where
  kind : Int
  tx : Int
  p : Pth
  mode : Int
  val : Int
  rows : List Rw
  err : Int
instance : Inhabited Ev := ⟨⟨0, 0, default, 0, 0, [], 0⟩⟩
def encEv (e : Ev) : List XC := [.i .i64 e.kind, .i .i64 e.tx, .i .i64 e.p.a, .i .i64 e.p.b, .i .i64 e.p.c, .i .i64 e.p.d, .i .i64 e.p.n, .i .i64 e.mode, .i .i64 e.val, rowX encR default 6 e.rows, .i .i64 e.err]
abbrev evsX (l : List Ev) : XC := rowX encEv default 11 l
structure Sp where
  tx : Int
  p : Pth
  mode : Int
  fr : Int
  to : Int
instance : Inhabited Sp := ⟨⟨0, default, 0, 0, 0⟩⟩
def encS (s : Sp) : List XC := [.i .i64 s.tx, .i .i64 s.p.a, .i .i64 s.p.b, .i .i64 s.p.c, .i .i64 s.p.d, .i .i64 s.p.n, .i .i64 s.mode, .i .i64 s.fr, .i .i64 s.to]
abbrev spansX (l : List Sp) : XC := rowX encS default 9 l

theorem rows_ex {α : Type} {enc : α → List XC} (d : α) {z n : Nat} {f : Nat → Nat → XC} (h : ∀ i, i < n → ∃ a : α, ∀ j, j < z → entC (f i j) (nthC (enc a) j)) : ∃ l : List α, l.length = n ∧ entC (.rs n z f) (rowX enc d z l) := by
  have h' : ∀ i, ∃ a : α, i < n → ∀ j, j < z → entC (f i j) (nthC (enc a) j) := fun i => by
    by_cases hi : i < n
    · obtain ⟨a, ha⟩ := h i hi; exact ⟨a, fun _ => ha⟩
    · exact ⟨d, fun h => absurd h hi⟩
  obtain ⟨g, hg⟩ := Classical.axiomOfChoice h'
  exact ⟨(List.range n).map g, by simp, rows_of (g := g) fun i hi j hj => hg i hi j hj⟩
theorem fitF_int {k : IntKind} {l : List Sh} {f : Nat → XC} {o : Nat} (h : fitF (.int k :: l) f o) : (∃ n : Int, f o = .i k n) ∧ fitF l f (o + 1) := by
  unfold fitF at h
  obtain ⟨⟨n, e, _⟩, h2⟩ := (⟨by have := h.1; unfold fit at this; exact this, h.2⟩ : (∃ n, f o = XC.i k n ∧ (Lit.int k n).wf = true) ∧ fitF l f (o + 1))
  exact ⟨⟨n, e⟩, h2⟩
theorem fitF_sl {z : Nat} {s l : List Sh} {f : Nat → XC} {o : Nat} (h : fitF (.sl z s :: l) f o) : (∃ n g, f o = .rs n z g ∧ ∀ i, i < n → fitF s (g i) 0) ∧ fitF l f (o + 1) := by
  unfold fitF at h
  have h1 := h.1
  unfold fit at h1
  obtain ⟨n, g, e, _, h3⟩ := h1
  exact ⟨⟨n, g, e, h3⟩, h.2⟩
abbrev shR : List Sh := [.int .i64, .int .i64, .int .i64, .int .i64, .int .i64, .int .i64]
theorem fit_rw {f : Nat → XC} (h : fitF shR f 0) : ∃ r : Rw, ∀ j, j < 6 → entC (f j) (nthC (encR r) j) := by
  obtain ⟨⟨n0, e0⟩, h⟩ := fitF_int h
  obtain ⟨⟨n1, e1⟩, h⟩ := fitF_int h
  obtain ⟨⟨n2, e2⟩, h⟩ := fitF_int h
  obtain ⟨⟨n3, e3⟩, h⟩ := fitF_int h
  obtain ⟨⟨n4, e4⟩, h⟩ := fitF_int h
  obtain ⟨⟨n5, e5⟩, h⟩ := fitF_int h
  refine ⟨⟨⟨n0, n1, n2, n3, n4⟩, n5⟩, fun j hj => entC_of_eq ?_⟩
  match j, hj with
  | 0, _ => exact e0
  | 1, _ => exact e1
  | 2, _ => exact e2
  | 3, _ => exact e3
  | 4, _ => exact e4
  | 5, _ => exact e5
abbrev shEv : List Sh := [.int .i64, .int .i64, .int .i64, .int .i64, .int .i64, .int .i64, .int .i64, .int .i64, .int .i64, .sl 6 shR, .int .i64]
theorem fit_ev {f : Nat → XC} (h : fitF shEv f 0) : ∃ e : Ev, ∀ j, j < 11 → entC (f j) (nthC (encEv e) j) := by
  obtain ⟨⟨n0, e0⟩, h⟩ := fitF_int h
  obtain ⟨⟨n1, e1⟩, h⟩ := fitF_int h
  obtain ⟨⟨n2, e2⟩, h⟩ := fitF_int h
  obtain ⟨⟨n3, e3⟩, h⟩ := fitF_int h
  obtain ⟨⟨n4, e4⟩, h⟩ := fitF_int h
  obtain ⟨⟨n5, e5⟩, h⟩ := fitF_int h
  obtain ⟨⟨n6, e6⟩, h⟩ := fitF_int h
  obtain ⟨⟨n7, e7⟩, h⟩ := fitF_int h
  obtain ⟨⟨n8, e8⟩, h⟩ := fitF_int h
  obtain ⟨⟨n, g, e9, hg⟩, h⟩ := fitF_sl h
  obtain ⟨⟨n10, e10⟩, h⟩ := fitF_int h
  obtain ⟨l, hl, hrow⟩ := rows_ex (enc := encR) default (z := 6) fun i hi => fit_rw (hg i hi)
  refine ⟨⟨n0, n1, ⟨n2, n3, n4, n5, n6⟩, n7, n8, l, n10⟩, fun j hj => ?_⟩
  match j, hj with
  | 0, _ => exact entC_of_eq e0
  | 1, _ => exact entC_of_eq e1
  | 2, _ => exact entC_of_eq e2
  | 3, _ => exact entC_of_eq e3
  | 4, _ => exact entC_of_eq e4
  | 5, _ => exact entC_of_eq e5
  | 6, _ => exact entC_of_eq e6
  | 7, _ => exact entC_of_eq e7
  | 8, _ => exact entC_of_eq e8
  | 9, _ => rw [e9]; exact hrow
  | 10, _ => exact entC_of_eq e10
theorem fit_evs {n : Nat} {f : Nat → Nat → XC} (h : ∀ i, i < n → fitF shEv (f i) 0) : ∃ l : List Ev, l.length = n ∧ entC (.rs n 11 f) (evsX l) := rows_ex default fun i hi => fit_ev (h i hi)
end Go.Eng
