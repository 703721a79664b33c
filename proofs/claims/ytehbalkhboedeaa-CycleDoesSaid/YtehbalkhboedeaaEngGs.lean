/- The engine, part Gs: an own row cut short in place. Nothing of any program is proved here. -/
import Derived.Test.YtehbalkhboedeaaEngGr
namespace Go.Eng
open Go Go.RowKit
set_option linter.unusedSimpArgs false
set_option linter.unusedVariables false
theorem shr_kill {E : Env} {it n : Nat} {x : XC} {v : Value} (h : RelC E (shrG it n x) v) : RelC E (killC it x) v := by
  have h1 := h.one
  unfold shrG at h
  split at h
  · rename_i k m z
    split at h
    · rename_i hb
      simp only [Bool.and_eq_true] at hb
      have e1 := Nat.eq_of_beq_eq_true hb.1
      subst e1
      have : Nat.beq k k = true := Nat.beq_refl k
      show RelC E (match Nat.beq k k with | true => .un | false => .sw k 0 m z) v
      rw [this]
      exact h1
    · exact h
  · exact h
theorem shr_kills {E : Env} {it n : Nat} : ∀ {l : List XC} {vs : List Value}, RelL E (l.map (shrG it n)) vs → RelL E (l.map (killC it)) vs
  | [], [], _ => trivial
  | [], _ :: _, h => h.elim
  | _ :: _, [], h => h.elim
  | x :: l, v :: vs, h => ⟨shr_kill h.1, shr_kills h.2⟩
theorem shr_killV {E : Env} {it n : Nat} {x : XV} {v : Value} (h : RelV E (gV (shrG it n) x) v) : RelV E (killVf it x) v := by
  cases x with
  | un => trivial
  | c x => exact shr_kill h
  | a l => obtain ⟨us, h1, h2⟩ := h; exact ⟨us, h1, shr_kills h2⟩
  | t l => trivial
theorem shr_killTs {E : Env} {it n : Nat} : ∀ {l : List XV} {vs : List Value}, RelTs E (l.map (gV (shrG it n))) vs → RelTs E (l.map (killVf it)) vs
  | [], [], _ => trivial
  | [], _ :: _, h => h.elim
  | _ :: _, [], h => h.elim
  | x :: l, v :: vs, h => ⟨shr_killV h.1, shr_killTs h.2⟩
section
variable {C : Cx} (hT : TabOk C.P C.T) {ts : List XV} {h : List It} {k : KE}
include hT in
/-- x[:n] of an own row: it is the row from here on, cut short. -/
theorem opx_shorten {dst : Option Tmp} {t ty : TypeId} {x hi : Operand} {pos : String} {after : Array Edge} {guard : Option (Nat × Bool)} {it e' z e : Nat} {xs : List (List XC)} {ti ei : TI} (n : Nat)
    (hx : opv ts x = .c (.ow it)) (hit : itemAt h it = .row e' z xs) (ht : C.T t = some ti) (hkd : ti.kd = .sl e) (he : C.T e = some ei) (hz : ei.size = z)
    (hhi : ∃ b, bnd (some (opv ts hi)) = some (some (b, (n : Int)))) (hn : n ≤ xs.length)
    (hk : killTs it ts fun ts => killH it h fun h => setH h it (.row e' z (xs.take n)) fun h => k (.c (.ow it)) ts h) : OpX C ⟨dst, .slice t x none (some hi) none, ty, pos, after, guard⟩ ts h k := by
  rw [killTs_eq, killH_eq, setH_eq] at hk
  have h0 := opx_cut (C := C) hT (ts := ts) (h := h) (k := fun x t2 h2 => x = .c (.sw it 0 n z) ∧ t2 = ts ∧ h2 = h) (dst := dst) (t := t) (ty := ty) (x := x) (lo := none) (hi := some hi) (pos := pos) (after := after) (guard := guard)
    0 n hx hit ht hkd he hz (.inl ⟨rfl, rfl⟩) (.inr hhi) ⟨Nat.zero_le _, hn⟩ ⟨rfl, rfl, rfl⟩
  unfold OpX at h0 ⊢
  refine And.intro (fun c e => Op.noConfusion e) ?_
  intro w0 F E w a hr hp
  obtain ⟨nx, u, w', x', ts', h', E', hnx, hrun, ⟨rfl, rfl, rfl⟩, hx', hr', hp'⟩ := h0.2 w0 F E w a hr hp
  obtain ⟨E2, hp2, hgst⟩ := shr_ghs n (itemAt_eq _ _ hit (by simp)) hn w0 F E' w' hp'
  have hv : RelV E2 (.c (.ow it)) u := by
    have := hgst.v hx'
    have e : gV (shrG it n) (.c (.sw it 0 n z)) = .c (.ow it) := by
      show XV.c (match Nat.beq it it && Nat.beq n n with | true => .ow it | false => killC it (.sw it 0 n z)) = _
      rw [Nat.beq_refl, Nat.beq_refl]; rfl
    rwa [e] at this
  exact ⟨nx, u, w', _, _, _, E2, hnx, hrun, hk, hv, shr_killTs (hgst.ts hr'), hp2⟩
end
end Go.Eng
