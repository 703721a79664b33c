/- The engine, part Sa: copy from one box of the run's own into another one. Nothing of any program is proved here. -/
import Derived.Test.YtbhmplbckkipjaaEngS
import Derived.Laws.CopyRow
namespace Go.Eng
open Go Go.RowKit
set_option linter.unusedSimpArgs false
set_option linter.unusedVariables false
/-- Is it a copy? -/
def isCpy : Op → Option (Operand × Operand × TypeId)
  | .call c => (match c.callee, c.args.toList, c.argTypes.toList with
    | .builtin .copy, [d, s], [t, _] => some (d, s, t)
    | _, _, _ => none)
  | _ => none
def cpyX (T : Tab) (h : List It) (rd : Nat → Bool) (t : TypeId) (d s : XV) (ts : List XV) (k : KE) : Prop :=
  match T t with
  | some ti => (match ti.kd with
    | .sl e => (match T e with
      | some ei => (match d, s with
        | .c (.sp it off n _), .c (.sp it2 off2 n2 _) => (match itemAt h it, itemAt h it2 with
          | .cells ty cs, .cells _ cs2 => when (Nat.beq ei.size 1 && !rd it && Nat.ble (off + n) cs.length && Nat.ble (off2 + n2) cs2.length)
              (forceL (putL cs off ((cs2.drop off2).take (Nat.min n2 n))) fun cs => setH h it (.cells ty cs) fun h => k (.c (.i .i64 (Nat.min n2 n : Nat))) ts h)
          | _, _ => False)
        | _, _ => False)
      | none => False)
    | _ => False)
  | none => False
section
variable {P : Program} {T : Tab} (hT : TabOk P T) {E : Env} {h : List It} {w0 : Org} {w : World} {F : Nat → Prop}
include hT in
theorem cpyX_sound {rd : Nat → Bool} {ts : List XV} {o : Oper} {a : Act} {k : KE} {d s : Operand} {t : TypeId} (ho : isCpy o.op = some (d, s, t)) (hh : cpyX T h rd t (opv ts d) (opv ts s) ts k) (hr : RelTs E ts a.tmps.toList) (hp : Heap w0 F E h w) :
    ∃ it, rd it = false ∧ Done P w0 F E h (some it) (execOp a.eval o) w a.tmps.toList k := by
  have hd := opv_rel (E := E) hr d
  have hs := opv_rel (E := E) hr s
  unfold cpyX at hh
  split at hh
  case h_2 => exact hh.elim
  rename_i ti ht
  split at hh
  case h_2 => exact hh.elim
  rename_i e hkd
  have hu := mkKd_sl ((TIs.of (hT _ _ ht)).kd.symm.trans hkd)
  split at hh
  case h_2 => exact hh.elim
  rename_i ei hte
  have hse := TIs.of (hT _ _ hte)
  split at hh
  case h_2 => exact hh.elim
  rename_i it off n z1 it2 off2 n2 z2 ed es
  split at hh
  case h_2 => exact hh.elim
  rename_i ty cs ty2 cs2 hit hit2
  replace hh := when_iff hh
  obtain ⟨hb, hh⟩ := hh
  rw [forceL_eq, setH_eq] at hh
  simp only [Bool.and_eq_true, Bool.not_eq_true'] at hb
  obtain ⟨⟨⟨hz, hrd⟩, h1⟩, h2⟩ := hb
  have hz := Nat.eq_of_beq_eq_true hz
  have h1 := Nat.le_of_ble_eq_true h1
  have h2 := Nat.le_of_ble_eq_true h2
  rw [ed] at hd
  rw [es] at hs
  obtain ⟨hn1, c1, hv1, hc1⟩ := hd
  obtain ⟨hn2, c2, hv2, hc2⟩ := hs
  have hi := itemAt_eq _ _ hit (by simp)
  have hi2 := itemAt_eq _ _ hit2 (by simp)
  obtain ⟨cur, hcur, hrel⟩ := hp.ok it _ hi
  obtain ⟨cur2, hcur2, hrel2⟩ := hp.ok it2 _ hi2
  have hl1 : cs.length = cur.size := by rw [hrel.len, Array.length_toList]
  have hl2 : cs2.length = cur2.size := by rw [hrel2.len, Array.length_toList]
  have hm1 : Nat.min n2 n ≤ n := Nat.min_le_right _ _
  have hm2 : Nat.min n2 n ≤ n2 := Nat.min_le_left _ _
  obtain ⟨i, hinfo, hsz, _⟩ := hse.info
  have hrv : RelL E ((cs2.drop off2).take (Nat.min n2 n)) ((cur2.toList.drop off2).take (Nat.min n2 n)) := (hrel2.drop off2).take _
  have hvl : ((cur2.toList.drop off2).take (Nat.min n2 n)).length = Nat.min n2 n := by
    rw [List.length_take, List.length_drop, Array.length_toList]; omega
  have hrun := run_copy_row (P := P) w t (o.op |> fun op => match op with | .call c => c.argTypes.toList.getD 1 0 | _ => 0) o.type e (E.blk it) off n c1 ⟨E.blk it2, off2, none⟩ n2 c2 cur ty ((cur2.toList.drop off2).take (Nat.min n2 n)) hu
    (by rw [hinfo]; simp [hsz, hz]) hcur hvl (fun j v hv => by
      rw [List.getElem?_take] at hv
      split at hv
      · rw [List.getElem?_drop, Array.getElem?_toList] at hv
        simp only [Addr.add]
        by_cases hj : j = 0
        · subst hj; simp only [if_true, World.cell?, hcur2]; simpa using hv
        · simp only [hj, if_false, World.cell?, hcur2]; simpa using hv
      · cases hv) (by rw [hvl]; omega) hrv.all
  have hput := RelL.put off hrel hrv
  refine ⟨it, hrd, _, _, w.setRow (E.blk it) (cur.toList.take off ++ (cur2.toList.drop off2).take (Nat.min n2 n) ++ cur.toList.drop (off + ((cur2.toList.drop off2).take (Nat.min n2 n)).length)).toArray, _, ts, _, E, .inl rfl, ?_, hh, rfl, hr, ?_, ⟨by simp [World.setRow], fun b hb hne => setRow_other' w _ b _ (fun e => hne it _ rfl hi (by rw [e]; rfl))⟩, After.set hi rfl⟩
  rotate_left
  · refine hp.put hi rfl (fun c hc => hc.symm) ⟨_, setRow_heap w (E.blk it) cur _ ty _ hcur, ?_⟩ ?_ rfl rfl rfl (fun k hk => setRow_other' w _ k _ hk)
    · simpa using hput
    · simp [World.setRow]
  · unfold isCpy at ho
    split at ho
    case h_2 => cases ho
    rename_i c hop
    obtain ⟨callee, args, argTypes⟩ := c
    simp only at ho
    split at ho
    case h_2 => cases ho
    rename_i d' s' t' t2 e3 e4
    cases ho
    obtain rfl : args = #[d, s] := by cases args; simpa using e3
    obtain rfl : argTypes = #[t, t2] := by cases argTypes; simpa using e4
    unfold execOp
    rw [hop] at hrun ⊢
    simp only [resolve, Deferred.ofValue, invoke, builtin, List.map_toArray, List.map_cons, List.map_nil, hv1, hv2, Sem.run_bind, Sem.run_pure, Result.andThen_ok] at hrun ⊢
    have hrun := hrun
    simp only [hvl] at hrun ⊢
    simp only [List.getD_eq_getElem?_getD, List.getElem?_cons_succ, List.getElem?_cons_zero, Option.getD_some] at hrun
    rw [hrun]
    rfl
end
end Go.Eng
