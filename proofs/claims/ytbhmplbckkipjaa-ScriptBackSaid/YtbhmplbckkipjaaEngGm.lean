/- The engine, part Gm: a box of stable cells laid aside for good: slices of all of it are slices that don't turn. Nothing of any program is proved here. -/
import Derived.Test.YtbhmplbckkipjaaEngGh
namespace Go.Eng
open Go Go.RowKit
set_option linter.unusedSimpArgs false
set_option linter.unusedVariables false
def frzB (it : Nat) (cs : List XC) (x : XC) : XC :=
  match x with
  | .sp k off n 0 => (match Nat.beq k it && (Nat.ble (off + n) cs.length && (Nat.ble n 1000000 && allSt cs)) with | true => .ts n 1 (fun i _ => nthC cs (off + i)) | false => .sp k off n 0)
  | x => x
theorem Heap.freezeB {w0 : Org} {F : Nat → Prop} {E : Env} {h : List It} {w : World} (hp : Heap w0 F E h w) {it : Nat} {x : It} (hx : h[it]? = some x) :
    EnvLe E (E.more w (Ow E it x)) ∧ Heap w0 F (E.more w (Ow E it x)) (h.set it .dead) w := by
  have hle : EnvLe E (E.more w (Ow E it x)) := hp.le_more
  refine ⟨hle, ?_⟩
  have hltit := (List.getElem?_eq_some_iff.1 hx).1
  have at_ : ∀ {k : Nat} {y : It}, (h.set it .dead)[k]? = some y → (k ≠ it ∧ h[k]? = some y) ∨ (k = it ∧ y = .dead) := by
    intro k y hy
    by_cases he : it = k
    · subst he; rw [List.getElem?_set_self hltit] at hy; exact .inr ⟨rfl, by simpa using hy.symm⟩
    · rw [List.getElem?_set_ne he] at hy
      exact .inl ⟨fun e => he e.symm, hy⟩
  have hbl : ∀ k x', Ow (E.more w (Ow E it x)) k x' = Ow E k x' := fun k x' => by
    cases x' <;> rfl
  refine ⟨?_, ?_, ?_, by simp [Env.more, hp.n], ?_, ?_, ?_, hp.fr⟩
  · rintro k (hB | hB)
    · exact ⟨(hp.bs k hB).1, rfl⟩
    · exact ⟨(hp.own it _ k hx hB).1, rfl⟩
  · exact hp.le.trans hle.bs
  · rintro b (hB | hB)
    · exact hp.nb b hB
    · exact .inr (hp.own it _ b hx hB).2.2
  · intro k y hy
    rcases at_ hy with ⟨_, hx'⟩ | ⟨_, rfl⟩
    · exact ItOk.mono hle (hp.blkLt hx') (hp.ok k y hx')
    · trivial
  · intro k y b hy hb
    rcases at_ hy with ⟨hk, hx'⟩ | ⟨_, rfl⟩
    · rw [hbl] at hb
      have h1 := hp.own k y b hx' hb
      refine ⟨h1.1, ?_, h1.2.2⟩
      rintro (hB | hB)
      · exact h1.2.1 hB
      · exact hk (hp.sep _ _ _ _ _ hx' hx hb hB)
    · simp [Ow] at hb
  · intro j k y y' b hy hy' hb hb'
    rcases at_ hy with ⟨_, hx1⟩ | ⟨_, rfl⟩
    · rcases at_ hy' with ⟨_, hx2⟩ | ⟨_, rfl⟩
      · rw [hbl] at hb hb'
        exact hp.sep _ _ _ _ _ hx1 hx2 hb hb'
      · simp [Ow] at hb'
    · simp [Ow] at hb
theorem frzB_ghs {h : List It} {it : Nat} {ty : TypeId} {cs : List XC} (hx : h[it]? = some (.cells ty cs)) : GhS h (frzB it cs) (h.set it .dead) := by
  intro w0 F E w hp
  obtain ⟨hle, hp'⟩ := hp.freezeB hx
  refine ⟨_, hp', fun x v hr => ?_⟩
  unfold frzB
  split
  · rename_i k off n
    split
    · rename_i hb
      simp only [Bool.and_eq_true] at hb
      obtain ⟨hk, h1, h2, h3⟩ := hb
      have hk := Nat.eq_of_beq_eq_true hk
      subst hk
      have h1 := Nat.le_of_ble_eq_true h1
      have h2 := Nat.le_of_ble_eq_true h2
      have hst := allSt_iff h3
      obtain ⟨cur, hcur, hrel⟩ := hp.ok _ _ hx
      obtain ⟨hn, c, rfl, _, hc⟩ := hr
      have hc : c = n := by omega
      subst hc
      have hlen := hrel.len
      refine ⟨_, rfl, by simp [maxLen]; omega, fun i hi => ⟨_, rfl, fun j hj => ?_⟩⟩
      obtain rfl : j = 0 := by omega
      have hg : cs[off + i]? = some (nthC cs (off + i)) := by rw [nthC_getD, List.getElem?_eq_getElem (by omega)]; rfl
      obtain ⟨u, hu, hru⟩ := hrel.get _ hg
      refine ⟨.inr rfl, u, ?_, hst _ (List.mem_of_getElem? hg), RelC.mono hle _ _ hru⟩
      show w.cell? _ = _
      rw [add_lit, cell_of_row w _ _ cur ty (0, 0) hcur]
      simpa using hu
    · exact RelC.mono hle _ _ hr
  · exact RelC.mono hle _ _ hr
theorem loopx_frzB {C : Cx} {ts : List XV} {h : List It} (it : Nat) {b : Code} {Q : KQ} {ty : TypeId} {cs : List XC} (hx : itemAt h it = .cells ty cs) (hh : gTsK (frzB it cs) ts fun ts => setH h it .dead fun h => LoopX C b Q ts h) : LoopX C b Q ts h := by
  rw [gTsK_eq, setH_eq] at hh
  exact loopx_cfg (fun w0 F a w hc => cfg_ghs (frzB_ghs (itemAt_eq _ _ hx (by simp))) hc) hh
end Go.Eng
