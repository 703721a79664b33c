/- The engine, part Gr: slices and maps held against nil; empty slice literals; nil answers as own rows. Nothing of any program is proved here. -/
import Derived.Test.YtehbalkhboedeaaEngGo
import Derived.Test.YtehbalkhboedeaaEngGk
namespace Go.Eng
open Go Go.RowKit
set_option linter.unusedSimpArgs false
set_option linter.unusedVariables false
theorem run_eq_sl_nil {P : Program} {ty e : TypeId} (hu : P.underlying ty = some (.slice e)) (A : Option Addr) (n c d : Nat) (w : World) :
    (Op.equalIn (d + 1) ty (.slice A n c) (.slice none 0 0)).run P w = .ok A.isNone w := by
  cases A <;> simp [Op.equalIn, run_underlying hu]
theorem eqGuard_sl (op : BinOp) (t : TypeId) (x y : Operand) (A : Option Addr) (n c : Nat) (v : Value) : eqGuard op t x y (.slice A n c) v = pure () := by cases op <;> rfl
theorem run_eq_mp_nil {P : Program} {ty k e : TypeId} (hu : P.underlying ty = some (.map k e)) (A : Option Nat) (d : Nat) (w : World) :
    (Op.equalIn (d + 1) ty (.map A) (.map none)).run P w = .ok A.isNone w := by
  cases A <;> simp [Op.equalIn, run_underlying hu]
theorem eqGuard_mp (op : BinOp) (t : TypeId) (x y : Operand) (A : Option Nat) (v : Value) : eqGuard op t x y (.map A) v = pure () := by cases op <;> rfl
/-- A slice of so many elements. -/
def SlN (h : List It) (xc : XC) (n : Nat) : Prop :=
  match xc with
  | .rs m _ _ => m = n
  | .ts m _ _ => m = n
  | .ow it => (match itemAt h it with | .row _ _ xs => xs.length = n | .prow _ _ as _ => as.length = n | _ => False)
  | .v (.slice A m _) => m = n ∧ (A = none → m = 0)
  | _ => False
theorem slN_rel {w0 : Org} {F : Nat → Prop} {E : Env} {h : List It} {w : World} {xc : XC} {n : Nat} {v : Value} (hs : SlN h xc n) (hr : RelC E xc v) (hp : Heap w0 F E h w) : ∃ A c, v = .slice A n c ∧ (A = none → n = 0) := by
  have own : ∀ {e z : Nat} {ys : List Value} {v : Value}, w.ownsRow 0 e z v n ys → ∃ A c, v = .slice A n c ∧ (A = none → n = 0) := by
    rintro e z ys v ⟨_, ho⟩
    rcases ho with ⟨h1, h2⟩ | ⟨b, cap, cur, h1, _⟩
    · subst h1; subst h2; exact ⟨_, _, rfl, fun _ => rfl⟩
    · subst h1; exact ⟨_, _, rfl, fun h => by cases h⟩
  cases xc <;> try exact hs.elim
  case rs m z f =>
    obtain ⟨A, c, rfl, _, _, hc⟩ := hr
    have hs : m = n := hs
    subst hs
    refine ⟨A, c, rfl, fun hA => ?_⟩
    by_cases h0 : m = 0
    · exact h0
    · obtain ⟨ad, h1, _⟩ := hc 0 (by omega)
      rw [hA] at h1; cases h1
  case ts m z f =>
    obtain ⟨A, rfl, _, hc⟩ := hr
    have hs : m = n := hs
    subst hs
    refine ⟨A, m, rfl, fun hA => ?_⟩
    by_cases h0 : m = 0
    · exact h0
    · obtain ⟨ad, h1, _⟩ := hc 0 (by omega)
      rw [hA] at h1; cases h1
  case ow it =>
    obtain ⟨_, rfl, _⟩ := hr
    unfold SlN at hs
    simp only at hs
    split at hs
    · rename_i e z xs hit
      obtain ⟨ys, hown, _⟩ := hp.ok it _ (itemAt_eq _ _ hit (by simp))
      rw [hs] at hown
      exact own hown
    · rename_i e z as o hit
      obtain ⟨ys, Ss, hP⟩ := hp.ok it _ (itemAt_eq _ _ hit (by simp))
      have := hP.row
      rw [hs] at this
      exact own this
    · exact hs.elim
  case v x =>
    cases x <;> try exact hs.elim
    rename_i A m c
    obtain ⟨h1, h2⟩ := hs
    subst h1
    obtain ⟨rfl, _⟩ := hr
    exact ⟨A, c, rfl, h2⟩
section
variable {C : Cx} (hT : TabOk C.P C.T) {ts : List XV} {h : List It} {k : KE}
include hT in
/-- s == nil -/
theorem opx_eqnil {dst : Option Tmp} {t rt : TypeId} {x y : Operand} {ty : TypeId} {pos : String} {after : Array Edge} {guard : Option (Nat × Bool)} {xc : XC} {n e : Nat} {ti : TI}
    (hx : opv ts x = .c xc) (hy : opv ts y = .c (.v (.slice none 0 0))) (ht : C.T t = some ti) (hkd : ti.kd = .sl e) (hs : SlN h xc n)
    (hk : n = 0 → k (.c .bt) ts h) (hk' : k (.c .bf) ts h) : OpX C ⟨dst, .binOp .eql t x y rt, ty, pos, after, guard⟩ ts h k := by
  unfold OpX
  refine And.intro (fun c e => Op.noConfusion e) ?_
  intro w0 F E w a hr hp
  have hxr := opv_rel (E := E) hr x
  have hyr := opv_rel (E := E) hr y
  rw [hx] at hxr
  rw [hy] at hyr
  have hyr : a.eval y = .slice none 0 0 := hyr.1
  obtain ⟨A, c, hv, hn⟩ := slN_rel hs hxr hp
  have hu := mkKd_sl ((TIs.of (hT _ _ ht)).kd.symm.trans hkd)
  have hrun : (execOp a.eval ⟨dst, .binOp .eql t x y rt, ty, pos, after, guard⟩).run C.P w = .ok (.value (.bool A.isNone)) w := by
    simp only [execOp, hv, hyr, eqGuard_sl, Sem.run_bind, Sem.run_pure, Result.andThen_ok, binOp, Op.equal, Op.maxDepth]
    rw [run_eq_sl_nil hu _ _ _ 9999]; simp
  cases A with
  | none => exact ⟨_, _, w, _, ts, h, E, .inl rfl, hrun, hk (hn rfl), rfl, hr, hp⟩
  | some ad => exact ⟨_, _, w, _, ts, h, E, .inl rfl, hrun, hk', rfl, hr, hp⟩
include hT in
/-- s != nil -/
theorem opx_nenil {dst : Option Tmp} {t rt : TypeId} {x y : Operand} {ty : TypeId} {pos : String} {after : Array Edge} {guard : Option (Nat × Bool)} {xc : XC} {n e : Nat} {ti : TI}
    (hx : opv ts x = .c xc) (hy : opv ts y = .c (.v (.slice none 0 0))) (ht : C.T t = some ti) (hkd : ti.kd = .sl e) (hs : SlN h xc n)
    (hk : n = 0 → k (.c .bf) ts h) (hk' : k (.c .bt) ts h) : OpX C ⟨dst, .binOp .neq t x y rt, ty, pos, after, guard⟩ ts h k := by
  unfold OpX
  refine And.intro (fun c e => Op.noConfusion e) ?_
  intro w0 F E w a hr hp
  have hxr := opv_rel (E := E) hr x
  have hyr := opv_rel (E := E) hr y
  rw [hx] at hxr
  rw [hy] at hyr
  have hyr : a.eval y = .slice none 0 0 := hyr.1
  obtain ⟨A, c, hv, hn⟩ := slN_rel hs hxr hp
  have hu := mkKd_sl ((TIs.of (hT _ _ ht)).kd.symm.trans hkd)
  have hrun : (execOp a.eval ⟨dst, .binOp .neq t x y rt, ty, pos, after, guard⟩).run C.P w = .ok (.value (.bool (!A.isNone))) w := by
    simp only [execOp, hv, hyr, eqGuard_sl, Sem.run_bind, Sem.run_pure, Result.andThen_ok, binOp, Op.equal, Op.maxDepth]
    rw [run_eq_sl_nil hu _ _ _ 9999]; simp
  cases A with
  | none => exact ⟨_, _, w, _, ts, h, E, .inl rfl, hrun, hk (hn rfl), rfl, hr, hp⟩
  | some ad => exact ⟨_, _, w, _, ts, h, E, .inl rfl, hrun, hk', rfl, hr, hp⟩
include hT in
/-- []T{} -/
theorem opx_lit0 {dst : Option Tmp} {t : TypeId} {ty : TypeId} {pos : String} {after : Array Edge} {guard : Option (Nat × Bool)} {e : Nat} {ti ei : TI}
    (ht : C.T t = some ti) (hkd : ti.kd = .sl e) (he : C.T e = some ei) (hk : lenK h fun n => snocH h (.row e ei.size []) fun h' => k (.c (.ow n)) ts h') : OpX C ⟨dst, .buildSlice t 0 #[], ty, pos, after, guard⟩ ts h k := by
  unfold OpX
  refine And.intro (fun c e => Op.noConfusion e) ?_
  intro w0 F E w a hr hp
  rw [lenK_eq, snocH_eq] at hk
  have hu := mkKd_sl ((TIs.of (hT _ _ ht)).kd.symm.trans hkd)
  have hs := TIs.of (hT _ _ he)
  obtain ⟨E', hp', hE, hv, _⟩ := hp.pushRow (e := e) (z := ei.size) (n := 0) (cap := 0) (cur := #[]) (xs := []) rfl (Nat.le_refl _) (by simp only [maxLen]; omega) (by simp) (by simp [RelL]) (by simp) (by simp)
  refine ⟨_, _, _, _, ts, _, E', .inl rfl, ?_, hk, hv, hr.mono hE, hp'⟩
  simp [execOp, Instr.buildSlice, run_underlying hu, run_size hs, Instr.fill, newRow]
  have h0 : ∀ (f : Nat → Value), (Array.range 0).map f = #[] := fun f => Array.eq_empty_of_size_eq_zero (by simp)
  rw [h0]
end
/-- A nil answer, as an own row. -/
theorem mt_nil (e z : Nat) {v : XV} {hs' : List It} {fx : List XC} {vs : List Value} {h : List It} (hh : lenK h fun n => snocH h (.row e z []) fun h1 => MT v hs' fx vs (.c (.ow n)) h1) : MT v hs' fx vs (.c (.v (.slice none 0 0))) h := by
  rw [lenK_eq, snocH_eq] at hh
  intro w0 F E w u hp hu
  have hu : u = .slice none 0 0 := hu.1
  subst hu
  have hle := Env.push_le E 0 (.slice none 0 0) (fun _ => False)
  refine hh w0 F (E.push 0 (.slice none 0 0)) w _ (hp.push (x := .row e z []) (Fr.refl _ _) ⟨[], ⟨by simp, .inl ⟨by simp [Env.push], rfl⟩⟩, by simp [RelL], by simp, by simp⟩ (fun c hc => ?_)) ⟨by simp [Env.push, hp.n], by simp [Env.push, hp.n], rfl⟩
  simp [Ow, Env.push, Value.ownBlock] at hc
end Go.Eng
