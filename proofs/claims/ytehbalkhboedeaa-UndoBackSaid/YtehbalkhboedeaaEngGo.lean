/- The engine, part Go: slices within an own row: cutting, clearing, an own row cut short. Nothing of any program is proved here. -/
import Derived.Test.YtehbalkhboedeaaEngGl
import Derived.Test.YtehbalkhboedeaaEngY
namespace Go.Eng
open Go Go.RowKit
set_option linter.unusedSimpArgs false
set_option linter.unusedVariables false
theorem flatten_take {z : Nat} : ∀ (n : Nat) {xs : List (List XC)}, (∀ l ∈ xs, l.length = z) → (xs.take n).flatten = xs.flatten.take (n * z)
  | _, [], _ => by simp
  | 0, _ :: _, _ => by simp
  | n + 1, a :: l, h => by
    have ha := h a (by simp)
    simp only [List.take_succ_cons, List.flatten_cons]
    rw [flatten_take n (fun x hx => h x (by simp [hx])), Nat.succ_mul, Nat.add_comm (n * z), List.take_append, ha]
    rw [List.take_of_length_le (l := a) (by omega), show z + n * z - z = n * z by omega]
theorem zc_flat (z : Array Value) : ∀ n, (Builtin.zeroCells z n).toList = (List.replicate n z.toList).flatten
  | 0 => by simp [Builtin.zeroCells]
  | n + 1 => by
    have ih := zc_flat z n
    rw [List.replicate_succ', List.flatten_append, ← ih]
    simp only [Builtin.zeroCells, Array.toList_map, Array.toList_range, List.flatten_cons, List.flatten_nil, List.append_nil]
    rw [Nat.succ_mul, List.range_add, List.map_append, List.map_map]
    congr 1
    apply List.ext_getElem
    · simp
    · intro i h1 h2
      have hi : i < z.size := by simpa using h1
      simp only [List.getElem_map, List.getElem_range, Function.comp_apply, Nat.mul_add_mod_self_right, Nat.mod_eq_of_lt hi, Array.getElem_toList]
      simp [hi]
section
variable {C : Cx} (hT : TabOk C.P C.T) {ts : List XV} {h : List It} {k : KE}
include hT in
/-- A slice of an own row. -/
theorem opx_cut {dst : Option Tmp} {t ty : TypeId} {x : Operand} {lo hi : Option Operand} {pos : String} {after : Array Edge} {guard : Option (Nat × Bool)} {it e' z e : Nat} {xs : List (List XC)} {ti ei : TI} (l r : Nat)
    (hx : opv ts x = .c (.ow it)) (hit : itemAt h it = .row e' z xs) (ht : C.T t = some ti) (hkd : ti.kd = .sl e) (he : C.T e = some ei) (hz : ei.size = z)
    (hlo : (lo = none ∧ l = 0) ∨ ∃ b, bnd (lo.map (opv ts)) = some (some (b, (l : Int)))) (hhi : (hi = none ∧ r = xs.length) ∨ ∃ b, bnd (hi.map (opv ts)) = some (some (b, (r : Int))))
    (hlr : l ≤ r ∧ r ≤ xs.length) (hk : k (.c (.sw it l (r - l) z)) ts h) : OpX C ⟨dst, .slice t x lo hi none, ty, pos, after, guard⟩ ts h k := by
  unfold OpX
  refine And.intro (fun c e => Op.noConfusion e) ?_
  intro w0 F E w a hr hp
  have ev := fun x => opv_rel (E := E) hr x
  have hxr := ev x
  rw [hx] at hxr
  obtain ⟨hn, hxv, _⟩ := hxr
  obtain ⟨ys, how, _, _⟩ := hp.ok it _ (itemAt_eq _ _ hit (by simp))
  have hu := mkKd_sl ((TIs.of (hT _ _ ht)).kd.symm.trans hkd)
  have hel := elem_sl hu
  have hu' : C.P.underlying t = some (.slice (C.P.elem t)) := by rw [hel]; exact hu
  have hs := TIs.of (hT _ _ he)
  have sz : ∀ W, (sizeOf (C.P.elem t)).run C.P W = .ok z W := fun W => by rw [hel, run_size hs, hz]
  obtain ⟨A, c, hsl, hmc⟩ : ∃ (A : Option Addr) (c : Nat), E.sl it = .slice A xs.length c ∧ xs.length ≤ c := by
    rcases how.2 with ⟨h1, h0⟩ | ⟨g, cap, cur, h1, _, _, hnc, _⟩
    · exact ⟨none, 0, by rw [h1, h0], by omega⟩
    · exact ⟨_, _, h1, hnc⟩
  have hres : RelV E (.c (.sw it l (r - l) z)) (sliced A l r c z) := ⟨hn, A, _, c, hsl, by omega, by rw [show l + (r - l) = r by omega]⟩
  have hrun : (Instr.sliceAt t (a.eval x) (lo.map a.eval) (hi.map a.eval) none).run C.P w = .ok (sliced A l r c z) w := by
    rw [hxv, hsl, run_sliceAt_slice w t _ _ _ _ hu']
    have bl : ∀ {o : Option Operand} {b : Bool} {n : Int}, bnd (o.map (opv ts)) = some (some (b, n)) → ∃ kd, o.map a.eval = some (.int kd n) := fun {o b n} hb =>
      bnd_some (E := E) hb (fun y hy => by cases o <;> simp at hy; subst hy; exact ⟨_, rfl, ev _⟩)
    rcases hlo with ⟨rfl, rfl⟩ | ⟨b, hlo⟩
    · rcases hhi with ⟨rfl, rfl⟩ | ⟨b', hhi⟩
      · simp only [Option.map_none]
        rw [run_slice_all w t A _ c hu', sz]; rfl
      · obtain ⟨kd, e2⟩ := bl hhi
        rw [e2]
        simp only [Option.map_none]
        rw [run_slice_h w t A _ c hu' kd r (by omega) (by omega), sz, Int.toNat_natCast]; rfl
    · obtain ⟨kd, e1⟩ := bl hlo
      rcases hhi with ⟨rfl, rfl⟩ | ⟨b', hhi⟩
      · rw [e1]
        simp only [Option.map_none]
        rw [run_slice_l w t A _ c hu' kd l (by omega) (by omega), sz, Int.toNat_natCast]; rfl
      · obtain ⟨kd', e2⟩ := bl hhi
        rw [e1, e2, run_slice_lh w t A _ c hu' kd kd' l r (by omega) (by omega) (by omega), sz, Int.toNat_natCast, Int.toNat_natCast]; rfl
  refine ⟨_, sliced A l r c z, w, _, ts, _, E, .inl rfl, ?_, hk, hres, hr, hp⟩
  simp only [execOp, Option.map_none, Sem.run_bind, hrun, Result.andThen_ok, Sem.run_pure]
include hT in
/-- clear of the end of an own row. -/
theorem opx_clear {dst : Option Tmp} {t ty : TypeId} {x : Operand} {pos : String} {after : Array Edge} {guard : Option (Nat × Bool)} {it e' z e off n : Nat} {xs : List (List XC)} {ti ei : TI}
    (hx : opv ts x = .c (.sw it off n z)) (hit : itemAt h it = .row e' z xs) (ht : C.T t = some ti) (hkd : ti.kd = .sl e) (he : C.T e = some ei) (hz : ei.size = z) (hstz0 : allSt (zeroX ei.zero) = true) (hend : off + n = xs.length)
    (hk : setH h it (.row e' z (xs.take off ++ List.replicate n (zeroX ei.zero))) fun h => k (.t []) ts h) : OpX C ⟨dst, .call ⟨.builtin .clear, #[x], #[t]⟩, ty, pos, after, guard⟩ ts h k := by
  unfold OpX
  refine And.intro (fun c e => Op.noConfusion e) ?_
  intro w0 F E w a hr hp
  have hxr := opv_rel (E := E) hr x
  rw [hx] at hxr
  rw [setH_eq] at hk
  obtain ⟨hn, A, m, c, hsl, hle, hxv⟩ := hxr
  have hi := itemAt_eq _ _ hit (by simp)
  obtain ⟨ys, how, hrel, hlens, hsts⟩ := hp.ok it _ hi
  have hu := mkKd_sl ((TIs.of (hT _ _ ht)).kd.symm.trans hkd)
  have hs := TIs.of (hT _ _ he)
  obtain ⟨i0, hinfo, hsz, _, z0, hz0, hzc, hzo, hzs⟩ := hs.info
  have hstz := allSt_iff hstz0
  have hzl : ei.zero.length = z := by rw [← hzc, Array.length_toList, hzs, hz]
  have hvl : (List.replicate n ei.zero).flatten.length = n * z := by simp [hzl]
  have hone : ∀ v ∈ (List.replicate n ei.zero).flatten, v.oneCell' = true := fun v hv => by
    obtain ⟨l, hl, hv⟩ := List.mem_flatten.1 hv
    rw [List.eq_of_mem_replicate hl] at hv
    exact hs.zone v hv
  have hrep : ∀ E2 : Env, RelL E2 (List.replicate n (zeroX ei.zero)).flatten (List.replicate n ei.zero).flatten := fun E2 => repX_rel (zeroX_rel E2 _ hs.zone) n
  have htup : RelV E (.t []) (.tuple #[]) := ⟨_, rfl, trivial⟩
  by_cases hn0 : n = 0
  · subst hn0
    have hxs : xs.take off ++ List.replicate 0 (zeroX ei.zero) = xs := by simp [List.take_of_length_le (show xs.length ≤ off by omega)]
    rw [hxs] at hk
    have hset : h.set it (.row e' z xs) = h := by
      obtain ⟨hlt, hg⟩ := List.getElem?_eq_some_iff.1 hi
      rw [← hg]; exact List.set_getElem_self hlt
    rw [hset] at hk
    refine ⟨_, .tuple #[], w, _, ts, _, E, .inl rfl, ?_, hk, htup, hr, hp⟩
    simp only [execOp, resolve, Deferred.ofValue, invoke, builtin, List.map_toArray, List.map_cons, List.map_nil, hxv, sliced, Sem.run_bind, Sem.run_pure, Result.andThen_ok, Nat.add_zero, Nat.sub_self]
    generalize (if c = off then A else Option.map (fun x => x.add (off * z)) A) = A'
    cases A' <;> simp [Builtin.clear_, run_underlying hu]
  · rcases how.2 with ⟨h1, h0⟩ | ⟨g, cap, cur, h1, h2, hcur, hnc, hcm, hcs, htk⟩
    · rw [hsl] at h1; cases h1; omega
    · rw [hsl] at h1
      injection h1 with e1 e2 e3
      subst e1; subst e2; subst e3
      have hsd : a.eval x = .slice (some ⟨g, off * z, none⟩) n (c - off) := by
        rw [hxv]; unfold sliced; rw [if_neg (by omega), Nat.add_sub_cancel_left]; simp [add_lit]
      have hmul : off * z + n * z = xs.length * z := by rw [← Nat.add_mul, hend]
      have hcz : xs.length * z ≤ c * z := Nat.mul_le_mul_right z hnc
      have hst := run_storeCells_at C.P g (off * z) e' (List.replicate n ei.zero).flatten 0 cur w hcur (by rw [hvl]; omega) hone
      simp only [Nat.add_zero, hvl] at hst
      let w' := w.setRow g (cur.toList.take (off * z) ++ (List.replicate n ei.zero).flatten ++ cur.toList.drop (off * z + n * z)).toArray
      have hys : ys.length = xs.length * z := how.1
      refine ⟨_, .tuple #[], w', _, ts, _, E, .inl rfl, ?_, hk, htup, hr, ?_⟩
      · simp only [execOp, resolve, Deferred.ofValue, invoke, builtin, List.map_toArray, List.map_cons, List.map_nil, hsd, Sem.run_bind, Sem.run_pure, Result.andThen_ok]
        obtain ⟨n', rfl⟩ : ∃ n', n = n' + 1 := ⟨n - 1, by omega⟩
        simp [Builtin.clear_, run_underlying hu, zeroValue, typeInfo, hinfo, hz0, zc_flat, hzc, hst, w']
      · refine hp.putTo hi (fun c hc => hc) ⟨ys.take (off * z) ++ (List.replicate n ei.zero).flatten, ?_, ?_, ?_, ?_⟩ (by simp [w', World.setRow]) rfl rfl rfl (fun b hb => setRow_other' w _ b _ (fun e => hb (by rw [e]; show (E.sl it).ownBlock = _; rw [hsl]; rfl)))
        · have hl2 : (xs.take off ++ List.replicate n (zeroX ei.zero)).length = xs.length := by simp; omega
          rw [hl2]
          refine ⟨by simp only [List.length_append, List.length_take, hvl]; omega, .inr ⟨g, c, _, by simpa using hsl, h2, setRow_heap w g cur _ e' _ hcur, hnc, hcm, ?_, ?_⟩⟩
          · simp only [List.size_toArray, List.length_append, List.length_take, List.length_drop, Array.length_toList, hvl]; omega
          · have := take_splice cur.toList (List.replicate n ei.zero).flatten (off * z) (xs.length * z) (by rw [hvl]; omega) (show xs.length * z ≤ cur.toList.length by have e : cur.toList.length = cur.size := Array.length_toList; rw [e, hcs]; exact hcz)
            rw [hvl, htk] at this
            simp only [List.toList_toArray]
            rw [this, hmul, List.drop_of_length_le (by omega), List.append_nil]
        · rw [List.flatten_append, flatten_take off hlens]
          exact (hrel.take _).append (hrep E)
        · intro l hl
          rcases List.mem_append.1 hl with hl | hl
          · exact hlens l (List.mem_of_mem_take hl)
          · rw [List.eq_of_mem_replicate hl]; simp [zeroX, hzl]
        · intro y hy
          rw [List.flatten_append] at hy
          rcases List.mem_append.1 hy with hy | hy
          · obtain ⟨l, hl, hy⟩ := List.mem_flatten.1 hy
            exact hsts y (List.mem_flatten.2 ⟨l, List.mem_of_mem_take hl, hy⟩)
          · obtain ⟨l, hl, hy⟩ := List.mem_flatten.1 hy
            rw [List.eq_of_mem_replicate hl] at hy
            exact hstz y hy
end
/-- An own row cut short. -/
def shrG (it n : Nat) (x : XC) : XC :=
  match x with
  | .sw k 0 m _ => (match Nat.beq k it && Nat.beq m n with | true => .ow it | false => killC it x)
  | x => killC it x
theorem shr_ghs {h : List It} {it e z : Nat} {xs : List (List XC)} (n : Nat) (hx : h[it]? = some (.row e z xs)) (hn : n ≤ xs.length) : GhS h (shrG it n) ((h.map (killIt it)).set it (.row e z (xs.take n))) := by
  intro w0 F E w hp
  obtain ⟨ys, how, hrel, hlens, hsts⟩ := hp.ok it _ hx
  obtain ⟨A, c, hsl, hmc, how'⟩ : ∃ (A : Option Addr) (c : Nat), E.sl it = .slice A xs.length c ∧ xs.length ≤ c ∧ w.ownsRow 0 e z (.slice A n c) n (ys.take (n * z)) := by
    have hl : (ys.take (n * z)).length = n * z := by
      have : n * z ≤ xs.length * z := Nat.mul_le_mul_right z hn
      rw [List.length_take, how.1]; omega
    rcases how.2 with ⟨h1, h0⟩ | ⟨g, cap, cur, h1, h2, h3, hnc, hcm, hcs, htk⟩
    · have : n = 0 := by omega
      subst this
      exact ⟨none, 0, by rw [h1, h0], by omega, hl, .inl ⟨rfl, rfl⟩⟩
    · refine ⟨_, _, h1, hnc, hl, .inr ⟨g, cap, cur, rfl, h2, h3, by omega, hcm, hcs, ?_⟩⟩
      rw [← htk, List.take_take]
      congr 1
      exact (Nat.min_eq_left (Nat.mul_le_mul_right z hn)).symm
  let E2 : Env := { E with sl := fun k => if k = it then .slice A n c else E.sl k }
  have hs2 : E2.sl it = .slice A n c := by simp [E2]
  have hsk : ∀ k, k ≠ it → E2.sl k = E.sl k := fun k hk => by simp [E2, hk]
  have hturn : Turn E E2 it := ⟨rfl, rfl, rfl, rfl, hsk⟩
  have hob : (Value.slice A n c).ownBlock = (E.sl it).ownBlock := by rw [hsl]; cases A <;> rfl
  refine ⟨E2, hp.turnTo (it := it) (E' := E2) hx (Nat.le_refl _) rfl rfl rfl (fun _ _ _ => rfl) rfl rfl rfl (fun _ _ => rfl) hsk (fun b hb => ?_) ⟨ys.take (n * z), ?_, ?_, ?_, ?_⟩, fun x v hr => ?_⟩
  · have hb : (E2.sl it).ownBlock = some b := hb
    rw [hs2, hob] at hb
    exact ⟨.inl hb, (hp.own it _ b hx hb).1⟩
  · rw [hs2, List.length_take, Nat.min_eq_left hn]; exact how'
  · have hft : (xs.take n).flatten = xs.flatten.take (n * z) := flatten_take n hlens
    rw [hft]
    exact (RelL.ofSt (E := E) (E' := E2) rfl hsts hrel).take _
  · exact fun l hl => hlens l (List.mem_of_mem_take hl)
  · intro x hx
    obtain ⟨l, hl, hx⟩ := List.mem_flatten.1 hx
    exact hsts x (List.mem_flatten.2 ⟨l, List.mem_of_mem_take hl, hx⟩)
  · unfold shrG
    split
    · rename_i k m z'
      split
      · rename_i hb
        simp only [Bool.and_eq_true] at hb
        have e1 := Nat.eq_of_beq_eq_true hb.1
        have e2 := Nat.eq_of_beq_eq_true hb.2
        subst e1; subst e2
        obtain ⟨h1, A', m', c', hsl', hle, rfl⟩ := hr
        rw [hsl] at hsl'
        injection hsl' with e1 e2 e3
        subst e1; subst e2; subst e3
        refine ⟨h1, ?_, rfl⟩
        rw [hs2]
        unfold sliced
        rw [Nat.zero_add, Nat.sub_zero, Nat.sub_zero]
        split
        · rfl
        · cases A <;> simp [Addr.add_zero']
      · exact killC_rel hturn hr
    · exact killC_rel hturn hr
theorem mt_shr (it n : Nat) {v : XV} {hs' : List It} {fx : List XC} {vs : List Value} {x : XV} {h : List It} {e z : Nat} {xs : List (List XC)} (hx : itemAt h it = .row e z xs) (hn : n ≤ xs.length)
    (hh : gVK (shrG it n) x fun x => killH it h fun h1 => setH h1 it (.row e z (xs.take n)) fun h2 => MT v hs' fx vs x h2) : MT v hs' fx vs x h := by
  rw [gVK_eq, killH_eq, setH_eq] at hh
  intro w0 F E w u hp hr
  obtain ⟨E2, hp2, hgst⟩ := shr_ghs n (itemAt_eq _ _ hx (by simp)) hn w0 F E w hp
  exact hh w0 F E2 w _ hp2 (hgst.v hr)
theorem mt_cut (it n z' : Nat) {v : XV} {hs' : List It} {fx : List XC} {vs : List Value} {h : List It} {e z : Nat} {xs : List (List XC)} (hx : itemAt h it = .row e z xs) (hn : n ≤ xs.length)
    (hh : killH it h fun h1 => setH h1 it (.row e z (xs.take n)) fun h2 => MT v hs' fx vs (.c (.ow it)) h2) : MT v hs' fx vs (.c (.sw it 0 n z')) h := by
  refine mt_shr it n hx hn ?_
  rw [gVK_eq]
  have hb : ∀ m : Nat, Nat.beq m m = true := fun m => by induction m with
    | zero => rfl
    | succ m ih => exact ih
  have e1 : gV (shrG it n) (.c (.sw it 0 n z')) = .c (.ow it) := by simp only [gV, shrG, hb, Bool.and_self]
  rw [e1]
  exact hh
end Go.Eng
