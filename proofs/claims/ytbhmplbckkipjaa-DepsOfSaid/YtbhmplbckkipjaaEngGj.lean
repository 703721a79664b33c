/- The engine, part Gj: copy from a row that does not turn into a box. Nothing of any program is proved here. -/
import Derived.Test.YtbhmplbckkipjaaEngY
import Derived.Test.YtbhmplbckkipjaaEngP2
import Derived.Laws.CopyRow
import Derived.Laws.IdiomCopy
namespace Go.Eng
open Go Go.RowKit
set_option linter.unusedSimpArgs false
set_option linter.unusedVariables false
theorem relL_mk {E : Env} : ∀ {l : List XC} {vs : List Value}, l.length = vs.length → (∀ (i : Nat) (x : XC) (v : Value), l[i]? = some x → vs[i]? = some v → RelC E x v) → RelL E l vs
  | [], [], _, _ => trivial
  | x :: l, v :: vs, h, hh => ⟨hh 0 x v rfl rfl, relL_mk (by simpa using h) fun i x v h1 h2 => hh (i + 1) x v (by simpa using h1) (by simpa using h2)⟩
section
variable {C : Cx} (hT : TabOk C.P C.T) {ts : List XV} {h : List It} {k : KE}
include hT in
/-- copy(a box's cells, a row that does not turn), all cells of the box; 'cs2': what it holds then. -/
theorem opx_copyB {dst : Option Tmp} {t t' : TypeId} {x y : Operand} {ty : TypeId} {pos : String} {after : Array Edge} {guard : Option (Nat × Bool)} {it n zd e' cty m : Nat} {f : Nat → Nat → XC} {cs : List XC} {ti ei : TI} (cs2 : List XC)
    (hx : opv ts x = .c (.sp it 0 n zd)) (hy : opv ts y = .c (.rs m 1 f)) (hit : itemAt h it = .cells cty cs) (hn : cs.length = n) (ht : C.T t = some ti) (hkd : ti.kd = .sl e') (he : C.T e' = some ei) (hez : ei.size = 1)
    (hn2 : cs2.length = n) (hlt : ∀ i, i < m → i < n → entC (f i 0) (nthC cs2 i)) (hge : ∀ i, m ≤ i → i < n → entC (nthC cs i) (nthC cs2 i))
    (hk : setH h it (.cells cty cs2) fun h => k (.c (.i .i64 (Nat.min m n : Nat))) ts h) : OpX C ⟨dst, .call ⟨.builtin .copy, #[x, y], #[t, t']⟩, ty, pos, after, guard⟩ ts h k := by
  unfold OpX
  refine And.intro (fun c e => Op.noConfusion e) ?_
  intro w0 F E w a hr hp
  have hxr := opv_rel (E := E) hr x
  have hyr := opv_rel (E := E) hr y
  rw [hx] at hxr
  rw [hy] at hyr
  obtain ⟨_, c1, hv1, _⟩ := hxr
  obtain ⟨A, c2, hv2, _, _, hcell⟩ := hyr
  have hi := itemAt_eq _ _ hit (by simp)
  obtain ⟨cur, hcur, hrel⟩ := hp.ok it _ hi
  have hu := mkKd_sl ((TIs.of (hT _ _ ht)).kd.symm.trans hkd)
  obtain ⟨i0, hinfo, hsz, _⟩ := (TIs.of (hT _ _ he)).info
  have hs1 : (C.P.info? e').map (·.size) = some 1 := by rw [hinfo]; simp [hsz, hez]
  have hl : cur.size = n := by rw [← hn, hrel.len, Array.length_toList]
  rw [setH_eq] at hk
  have nth : ∀ {l : List XC} {i : Nat} {x : XC}, l[i]? = some x → nthC l i = x := fun {l i x} h => by rw [nthC_getD, h]; rfl
  by_cases hq : Nat.min m n = 0
  · have hrun := run_copy_none (P := C.P) w t t' ty e' (some ⟨E.blk it, 0, none⟩) A n c1 m c2 hu hs1 hq
    refine ⟨_, .int .i64 (Nat.min m n : Nat), w, _, ts, _, E, .inl rfl, ?_, hk, rfl, hr, ?_⟩
    rotate_left
    · refine hp.put (w' := w) hi rfl (fun c hc => hc.symm) ⟨cur, hcur, relL_mk (by rw [hn2, Array.length_toList, hl]) fun i x v h1 h2 => ?_⟩ rfl rfl rfl rfl (fun _ _ => rfl)
      have hin : i < n := by rw [← hn2]; exact (List.getElem?_eq_some_iff.1 h1).1
      have hmi : m ≤ i := by
        rcases Nat.le_total m n with h3 | h3
        · have : Nat.min m n = m := Nat.min_eq_left h3
          omega
        · have : Nat.min m n = n := Nat.min_eq_right h3
          omega
      obtain ⟨x0, h0, hr0⟩ := hrel.get' i h2
      have := hge i hmi hin
      rw [nth h0, nth h1] at this
      exact entC_rel this hr0
    · simp only [execOp, resolve, Deferred.ofValue, invoke, builtin, List.map_toArray, List.map_cons, List.map_nil, hv1, hv2, Sem.run_bind, Sem.run_pure, Result.andThen_ok]
      rw [hrun, hq]
      rfl
  · have hm0 : 0 < m := by
      rcases Nat.eq_zero_or_pos m with h0 | h0
      · rw [h0] at hq; exact absurd (Nat.min_eq_left (Nat.zero_le _)) hq
      · exact h0
    obtain ⟨ad, hA, _⟩ := hcell 0 hm0
    subst hA
    have hqm : Nat.min m n ≤ m := Nat.min_le_left _ _
    have hqn : Nat.min m n ≤ n := Nat.min_le_right _ _
    have hcw : ∀ i, i < m → ∃ u, w.cell? (ad.add i) = some u ∧ RelC E (f i 0) u := fun i hi => by
      obtain ⟨ad2, e2, h3⟩ := hcell i hi
      cases e2
      obtain ⟨hB, u, hu2, _, hru⟩ := h3 0 (by omega)
      rw [Nat.mul_one, Nat.add_zero] at hu2
      refine ⟨u, ?_, hru⟩
      rw [← hu2]
      have hb : (ad.add i).block = ad.block := by unfold Addr.add; split <;> rfl
      unfold World.cell?
      rw [hb, (hp.bs ad.block hB).2]
    let us : List Value := (List.range (Nat.min m n)).map fun i => (w.cell? (ad.add i)).getD undef
    have hul : us.length = Nat.min m n := by simp [us]
    have hus : ∀ j v, us[j]? = some v → j < Nat.min m n ∧ w.cell? (ad.add j) = some v ∧ RelC E (f j 0) v := fun j v hv => by
      have hj : j < Nat.min m n := by rw [← hul]; exact (List.getElem?_eq_some_iff.1 hv).1
      obtain ⟨u, h1, h2⟩ := hcw j (by omega)
      have : us[j]? = some u := by simp only [us, List.getElem?_map, List.getElem?_range hj, Option.map_some, h1, Option.getD_some]
      rw [this] at hv
      cases hv
      exact ⟨hj, h1, h2⟩
    have hone : ∀ v ∈ us, v.oneCell' = true := fun v hv => by
      obtain ⟨j, hj⟩ := List.getElem?_of_mem hv
      exact RelC.one (hus j v hj).2.2
    have hrun := run_copy_row (P := C.P) w t t' ty e' (E.blk it) 0 n c1 ad m c2 cur cty us hu hs1 hcur hul (fun j v hv => (hus j v hv).2.1) (by rw [hul, hl]; omega) hone
    refine ⟨_, .int .i64 (Nat.min m n : Nat), w.setRow (E.blk it) (cur.toList.take 0 ++ us ++ cur.toList.drop (0 + us.length)).toArray, _, ts, _, E, .inl rfl, ?_, hk, rfl, hr, ?_⟩
    rotate_left
    · refine hp.put hi rfl (fun c hc => hc.symm) ⟨_, setRow_heap w (E.blk it) cur _ cty _ hcur, ?_⟩ (by simp [World.setRow]) rfl rfl rfl (fun k hk => setRow_other' w _ k _ hk)
      refine relL_mk ?_ fun i x v h1 h2 => ?_
      · simp only [List.take_zero, List.nil_append, List.length_append, List.length_drop, hul, Array.length_toList, hl, hn2, Nat.zero_add]
        omega
      · have hin : i < n := by rw [← hn2]; exact (List.getElem?_eq_some_iff.1 h1).1
        simp only [List.take_zero, List.nil_append, Nat.zero_add] at h2
        rcases Nat.lt_or_ge i (Nat.min m n) with h3 | h3
        · rw [List.getElem?_append_left (by rw [hul]; exact h3)] at h2
          have := hlt i (by omega) hin
          rw [nth h1] at this
          exact entC_rel this (hus i v h2).2.2
        · have hmi : m ≤ i := by
            rcases Nat.le_total m n with h4 | h4
            · have h5 : Nat.min m n = m := Nat.min_eq_left h4
              omega
            · have h5 : Nat.min m n = n := Nat.min_eq_right h4
              omega
          rw [List.getElem?_append_right (by rw [hul]; exact h3), List.getElem?_drop, hul, show Nat.min m n + (i - Nat.min m n) = i by omega] at h2
          obtain ⟨x0, h0, hr0⟩ := hrel.get' i h2
          have := hge i hmi hin
          rw [nth h0, nth h1] at this
          exact entC_rel this hr0
    · simp only [execOp, resolve, Deferred.ofValue, invoke, builtin, List.map_toArray, List.map_cons, List.map_nil, hv1, hv2, Sem.run_bind, Sem.run_pure, Result.andThen_ok]
      rw [hrun, hul]
      rfl
end
end Go.Eng
