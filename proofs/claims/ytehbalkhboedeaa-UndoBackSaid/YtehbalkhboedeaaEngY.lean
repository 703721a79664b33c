/- The engine, part Y: copy. Nothing of any program is proved here. -/
import Derived.Test.YtehbalkhboedeaaEngX
import Derived.Laws.CopyRow
namespace Go.Eng
open Go Go.RowKit
set_option linter.unusedSimpArgs false
set_option linter.unusedVariables false
section
variable {C : Cx} (hT : TabOk C.P C.T) {ts : List XV} {h : List It} {k : KE}

theorem flat_len {z : Nat} : ∀ {xs : List (List XC)}, (∀ l ∈ xs, l.length = z) → xs.flatten.length = xs.length * z
  | [], _ => by simp
  | x :: xs, h => by
    have := flat_len (xs := xs) fun l hl => h l (by simp [hl])
    rw [List.flatten_cons, List.length_append, this, h x (by simp), List.length_cons, Nat.succ_mul, Nat.add_comm]
theorem flat_take {z : Nat} : ∀ {xs : List (List XC)} (n : Nat), (∀ l ∈ xs, l.length = z) → (xs.take n).flatten = xs.flatten.take (n * z)
  | [], n, _ => by simp
  | x :: xs, 0, _ => by simp
  | x :: xs, n + 1, h => by
    have := flat_take (xs := xs) n fun l hl => h l (by simp [hl])
    rw [List.take_succ_cons, List.flatten_cons, List.flatten_cons, this, Nat.succ_mul, Nat.add_comm, ← h x (by simp), List.take_length_add_append]
theorem flat_drop {z : Nat} : ∀ {xs : List (List XC)} (n : Nat), (∀ l ∈ xs, l.length = z) → (xs.drop n).flatten = xs.flatten.drop (n * z)
  | [], n, _ => by simp
  | x :: xs, 0, _ => by simp
  | x :: xs, n + 1, h => by
    have := flat_drop (xs := xs) n fun l hl => h l (by simp [hl])
    rw [List.drop_succ_cons, List.flatten_cons, this, Nat.succ_mul, Nat.add_comm, ← h x (by simp), List.drop_length_add_append]

include hT in
/-- copy(own, src) -/
theorem opx_copy {dst : Option Tmp} {t t' : TypeId} {x y : Operand} {ty : TypeId} {pos : String} {after : Array Edge} {guard : Option (Nat × Bool)} {it e z e' : Nat} {xs : List (List XC)} {ti ei : TI}
    (hx : opv ts x = .c (.ow it)) (hit : itemAt h it = .row e z xs) (ht : C.T t = some ti) (hkd : ti.kd = .sl e') (he : C.T e' = some ei) (hez : ei.size = z)
    (hsrc : srcX ei h (opv ts y) fun ys => setH h it (.row e z (ys.take xs.length ++ xs.drop ys.length)) fun h => k (.c (.i .i64 (Nat.min ys.length xs.length : Nat))) ts h) : OpX C ⟨dst, .call ⟨.builtin .copy, #[x, y], #[t, t']⟩, ty, pos, after, guard⟩ ts h k := by
  unfold OpX
  refine And.intro (fun c e => Op.noConfusion e) ?_
  intro w0 F E w a hr hp
  have hxr := opv_rel hr x
  have hyr := opv_rel hr y
  rw [hx] at hxr
  have hi := itemAt_eq _ _ hit (by simp)
  have hu := mkKd_sl ((TIs.of (hT _ _ ht)).kd.symm.trans hkd)
  have hs := TIs.of (hT _ _ he)
  obtain ⟨ys, A, m, c, us, hk, hyv, rfl, hul, hcell, hrel, hlen, hst⟩ := srcX_sound (e := e) hsrc hyr hp
  rw [setH_eq] at hk
  obtain ⟨vs, how, hvr, hl, hst2⟩ := hp.ok it _ hi
  have hxv : a.eval x = E.sl it := hxr.2.1
  have hR := hrel E rfl
  have hus1 : ∀ u ∈ us, u.oneCell' = true := hR.all
  have hlen' : ∀ l ∈ ys, l.length = z := by rw [← hez]; exact hlen
  have hul' : us.length = ys.length * z := by rw [← hez]; exact hul
  have hld : (loadCells · ·) = (loadCells · ·) := rfl
  have hmin : Nat.min ys.length xs.length ≤ ys.length := Nat.min_le_left _ _
  have hfirst : (Builtin.firstCells z (Nat.min ys.length xs.length) (a.eval y)).run C.P w = .ok (us.take (Nat.min ys.length xs.length * z)).toArray w := by
    rw [hyv]
    cases A with
    | none =>
      have : us = [] := by
        cases us with
        | nil => rfl
        | cons u us => obtain ⟨ad, e, _⟩ := hcell 0 u rfl; cases e
      subst this
      simp [Builtin.firstCells]
    | some ad =>
      have hll : (us.take (Nat.min ys.length xs.length * z)).length = Nat.min ys.length xs.length * z := by
        rw [List.length_take, hul']
        exact Nat.min_eq_left (Nat.mul_le_mul_right z hmin)
      have := run_loadCells_list (P := C.P) (w := w) ad (us.take (Nat.min ys.length xs.length * z)) (fun j v hv => by
        have hj : us[j]? = some v := by
          rw [List.getElem?_take] at hv
          split at hv
          · exact hv
          · cases hv
        obtain ⟨ad', e, h'⟩ := hcell j v hj; cases e; exact h')
      rw [hll] at this
      simpa [Builtin.firstCells] using this
  have hsz : (sizeOf e').run C.P w = .ok z w := by rw [← hez]; exact run_size hs w
  have hflat : (ys.take xs.length ++ xs.drop ys.length).flatten = ys.flatten.take (Nat.min ys.length xs.length * z) ++ xs.flatten.drop (Nat.min ys.length xs.length * z) := by
    rw [List.flatten_append, flat_take _ hlen', flat_drop _ hl]
    rcases Nat.le_total ys.length xs.length with h1 | h1
    · rw [show Nat.min ys.length xs.length = ys.length from Nat.min_eq_left h1]
      congr 1
      rw [List.take_of_length_le (by rw [flat_len hlen']; exact Nat.mul_le_mul_right z h1), List.take_of_length_le (by rw [flat_len hlen']; exact Nat.le_refl _)]
    · rw [show Nat.min ys.length xs.length = xs.length from Nat.min_eq_right h1]
      congr 1
      rw [List.drop_of_length_le (by rw [flat_len hl]; exact Nat.mul_le_mul_right z h1), List.drop_of_length_le (by rw [flat_len hl]; exact Nat.le_refl _)]
  have hlenR : (ys.take xs.length ++ xs.drop ys.length).length = xs.length := by
    simp only [List.length_append, List.length_take, List.length_drop]; omega
  have hvl : vs.length = xs.length * z := how.1
  have hrelN : RelL E ((ys.take xs.length ++ xs.drop ys.length).flatten) (us.take (Nat.min ys.length xs.length * z) ++ vs.drop (Nat.min ys.length xs.length * z)) := by
    rw [hflat]; exact (hR.take _).append (hvr.drop _)
  have hlN : ∀ l ∈ ys.take xs.length ++ xs.drop ys.length, l.length = z := fun l hl' => by
    rcases List.mem_append.1 hl' with h1 | h1
    · exact hlen' l (List.mem_of_mem_take h1)
    · exact hl l (List.mem_of_mem_drop h1)
  have hsN : ∀ x ∈ (ys.take xs.length ++ xs.drop ys.length).flatten, St x := fun x hx' => by
    rw [hflat] at hx'
    rcases List.mem_append.1 hx' with h1 | h1
    · exact hst x (List.mem_of_mem_take h1)
    · exact hst2 x (List.mem_of_mem_drop h1)
  have hmz : Nat.min ys.length xs.length * z ≤ xs.length * z := Nat.mul_le_mul_right z (Nat.min_le_right _ _)
  have htl : (us.take (Nat.min ys.length xs.length * z)).length = Nat.min ys.length xs.length * z := by
    rw [List.length_take, hul']; exact Nat.min_eq_left (Nat.mul_le_mul_right z hmin)
  rcases how.2 with ⟨hnil, h0⟩ | ⟨g, cap, cur, hsl, h0, hg, hnc, hcm, hcs, htake⟩
  · have hx0 : xs = [] := by simpa using h0
    subst hx0
    refine ⟨_, .int .i64 (Nat.min ys.length 0 : Nat), w, _, ts, _, E, .inl rfl, ?_, hk, rfl, hr, ?_⟩
    · simp only [List.length_nil] at hfirst
      simp [execOp, resolve, Deferred.ofValue, invoke, builtin, Builtin.copy_, run_underlying hu, hxv, hnil, hsz, hyv, Builtin.lenOf, goInt] at hfirst ⊢
      rw [hfirst]; simp
    · have e1 : (ys.take ([] : List (List XC)).length ++ ([] : List (List XC)).drop ys.length) = [] := by simp
      rw [e1]
      have : h.set it (.row e z []) = h := by
        apply List.ext_getElem?
        intro j
        by_cases hj : it = j
        · subst hj; rw [List.getElem?_set_self (List.getElem?_eq_some_iff.1 hi).1, hi]
        · rw [List.getElem?_set_ne hj]
      rw [this]; exact hp
  · have hcsz : cur.toList.length = cap * z := by rw [Array.length_toList]; exact hcs
    have hxc : xs.length * z ≤ cap * z := Nat.mul_le_mul_right z hnc
    have hst3 := run_storeCells_at C.P g 0 e (us.take (Nat.min ys.length xs.length * z)) 0 cur w hg (by rw [htl, ← Array.length_toList, hcsz]; omega) (fun v hv => hus1 v (List.mem_of_mem_take hv))
    simp only [Nat.add_zero, Nat.zero_add, List.take_zero, List.nil_append, htl] at hst3
    refine ⟨_, .int .i64 (Nat.min ys.length xs.length : Nat), w.setRow g (us.take (Nat.min ys.length xs.length * z) ++ cur.toList.drop (Nat.min ys.length xs.length * z)).toArray, _, ts, _, E, .inl rfl, ?_, hk, rfl, hr, ?_⟩
    rotate_left
    · refine hp.put hi (b := g) (by simp [Ow, hsl, Value.ownBlock]) (fun c hc => by simp [Ow, hsl, Value.ownBlock] at hc; exact hc.symm) ⟨_, ⟨?_, .inr ⟨g, cap, _, by rw [hlenR]; exact hsl, Nat.zero_le _, setRow_heap w g cur _ e _ hg, by rw [hlenR]; exact hnc, hcm, ?_, ?_⟩⟩, hrelN, hlN, hsN⟩ (by simp [World.setRow]) rfl rfl rfl (fun k hk => setRow_other' w _ k _ hk)
      · rw [List.length_append, htl, List.length_drop, hvl, hlenR]; omega
      · simp only [List.size_toArray, List.length_append, htl, List.length_drop, hcsz]; omega
      · rw [hlenR]
        show List.take _ ((us.take _ ++ cur.toList.drop _)) = _
        rw [List.take_append, htl, List.take_of_length_le (by rw [htl]; exact hmz), List.take_drop, ← htake]
        rw [Nat.add_sub_of_le hmz]
    · rw [hyv] at hfirst
      simp only [execOp, resolve, Deferred.ofValue, invoke, builtin, Builtin.copy_, List.map_toArray, List.map_cons, List.map_nil, hxv, hsl, hyv, Builtin.lenOf, goInt]
      simp [run_underlying hu, hsz, hfirst, hst3]
end
end Go.Eng
