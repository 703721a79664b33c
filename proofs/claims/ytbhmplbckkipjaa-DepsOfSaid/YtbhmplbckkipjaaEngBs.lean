/- The engine, part Bs: bytes as a text. Nothing of any program is proved here. -/
import Derived.Test.YtbhmplbckkipjaaEngZ
import Derived.Test.YtbhmplbckkipjaaEngY
import Derived.Laws.BytesString
namespace Go.Eng
open Go Go.RowKit
set_option linter.unusedVariables false
/-- The text of bytes. -/
def baOf (l : List Int) : ByteArray := l.foldl (fun r n => r.push (UInt8.ofNat n.toNat)) ByteArray.empty
section
variable {C : Cx} (hT : TabOk C.P C.T) {ts : List XV} {h : List It}
include hT in
theorem opp_str {dst : Option Tmp} {s d ty : TypeId} {x : Operand} {pos : String} {after : Array Edge} {guard : Option (Nat × Bool)} {k : XV → Prop} {n : Nat} {f : Nat → Nat → XC} {e : TypeId} {ti ei di : TI} (l : List Int)
    (hx : opv ts x = .c (.rs n 1 f)) (hn : n = l.length) (hf : ∀ i, i < n → f i 0 = .i .u8 (l.getD i 0)) (hs : C.T s = some ti) (hsk : ti.kd = .sl e) (he : C.T e = some ei) (hek : ei.kd = .int .u8) (hd : C.T d = some di) (hdk : di.kd = .str)
    (hk : k (.c (.v (.string (baOf l))))) : OpPX C ⟨dst, .convert s d x, ty, pos, after, guard⟩ ts h k := by
  unfold OpPX
  refine ⟨_, hk, fun w0 F E w a ls hl hon hp => ?_⟩
  have hxr : RelV E (opv ts x) (a.eval x) := by
    rw [← opv_mask (hl x (by simp [Op.operands]))]; exact opv_rel hon.masked x
  rw [hx] at hxr
  obtain ⟨A, c, hv, hnc, hm, hc⟩ := hxr
  have hus := mkKd_sl ((TIs.of (hT _ _ hs)).kd.symm.trans hsk)
  have hue := mkKd_int ((TIs.of (hT _ _ he)).kd.symm.trans hek)
  have hud := mkKd_str ((TIs.of (hT _ _ hd)).kd.symm.trans hdk)
  refine ⟨_, .string (baOf l), w, E, .inl rfl, ?_, EnvLe.refl E, ⟨rfl, rfl⟩, hp⟩
  have hrun : (Conv.bytesToString (.slice A n c)).run C.P w = .ok (.string (baOf l)) w := by
    cases A with
    | none =>
      have h0 : n = 0 := by
        rcases Nat.eq_zero_or_pos n with h0 | h0
        · exact h0
        · obtain ⟨ad, e', _⟩ := hc 0 h0; cases e'
      have : l = [] := List.eq_nil_of_length_eq_zero (by omega)
      subst this
      rfl
    | some ad =>
      refine run_bytesToString w ad n c l ?_
      have hl2 := run_loadCells_list (P := C.P) (w := w) ad (l.map (Value.int .u8)) (fun j v hv => by
        rw [List.getElem?_map] at hv
        have hj : j < l.length := by
          rcases Nat.lt_or_ge j l.length with h | h
          · exact h
          · rw [List.getElem?_eq_none h] at hv; cases hv
        rw [List.getElem?_eq_getElem hj] at hv
        obtain ⟨ad', e', hcell⟩ := hc j (by omega)
        cases e'
        obtain ⟨hb, u, h1, _, h3⟩ := hcell 0 (by omega)
        rw [Nat.mul_one, Nat.add_zero] at h1
        rw [hf j (by omega)] at h3
        have h3 : u = .int .u8 (l.getD j 0) := h3
        rw [List.getD_eq_getElem?_getD, List.getElem?_eq_getElem hj] at h3
        rw [(Base.cell hp.bs (by rw [block_add]; exact hb)).trans h1, h3]
        exact hv)
      rw [List.length_map, ← hn] at hl2
      exact hl2
  simp [execOp, hv, run_convert_bytes_string w s d e A n c hus hue hud, hrun]
end
end Go.Eng
