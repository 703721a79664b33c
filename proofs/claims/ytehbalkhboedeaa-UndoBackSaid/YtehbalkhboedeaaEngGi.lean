/- The engine, part Gi: the library's sort of numbers, as a function that turns the caller's own row. Nothing of any program is proved here. -/
import Derived.Test.YtehbalkhboedeaaEngP4
import Derived.Sort.OwnSortedInts
import Derived.Below
namespace Go.Eng
open Go Go.RowKit Go.Sort Go.Proofs
set_option linter.unusedSimpArgs false
set_option linter.unusedVariables false
def sortL (l : List Int) : List Int := l.mergeSort fun x y => decide (x ≤ y)
abbrev rowI (e : TypeId) (l : List Int) : It := .row e 1 (l.map fun n => [.i .i64 n])
theorem relI {E : Env} : ∀ {l : List Int} {ys : List Value}, RelL E (l.map fun n => [XC.i .i64 n]).flatten ys → ys = l.map (Value.int .i64)
  | [], [], _ => rfl
  | [], _ :: _, h => h.elim
  | n :: l, [], h => h.elim
  | n :: l, y :: ys, h => by
    have h1 : y = .int .i64 n := h.1
    rw [h1, relI (l := l) h.2]; rfl
theorem relI' {E : Env} : ∀ (l : List Int), RelL E (l.map fun n => [XC.i .i64 n]).flatten (l.map (Value.int .i64))
  | [] => trivial
  | n :: l => ⟨rfl, relI' l⟩
theorem stI : ∀ (l : List Int), ∀ x ∈ (l.map fun n => [XC.i .i64 n]).flatten, St x := by
  intro l x hx
  simp only [List.mem_flatten, List.mem_map] at hx
  obtain ⟨c, ⟨n, _, rfl⟩, hx⟩ := hx
  obtain rfl := List.mem_singleton.1 hx
  trivial
theorem tup0 {E : Env} : RelV E (.t []) (.tuple #[]) := by
  unfold RelV
  first | exact ⟨_, rfl, trivial⟩ | exact ⟨rfl, trivial⟩ | trace_state
theorem sort_m {P : Program} {f : FuncId} {e : TypeId} (hok : FnOk P f)
    (h1 : ∀ (blk cap : Nat) (zs : List Int) (w : World), Holds (Value.int .i64) w blk 0 zs.toArray → blk < w.heap.size → zs.length < 4611686018427387904 → Calls P f #[.slice (some ⟨blk, 0, none⟩) zs.length cap] w fun e w' => e = .returned (.tuple #[]) ∧ ∃ n os, w' = grow (putRow (Value.int .i64) (Sort.ahead w n) blk 0 (zs.mergeSort fun x y => decide (x ≤ y)).toArray) os)
    (h0 : ∀ (p : Option Addr) (cap : Nat) (w : World), Calls P f #[.slice p 0 cap] w fun e w' => e = .returned (.tuple #[]) ∧ w' = w)
    (zs : List Int) (hz : zs.length < 4611686018427387904) (fx : List XC) : FnM P f [.c (.ow 0)] [rowI e zs] fx (.t []) [rowI e (sortL zs)] := by
  refine ⟨hok, fun w0 F E w us vs hp hr hfx => ?_⟩
  obtain ⟨ys, hown, hrel, hlen, hst⟩ := hp.ok 0 _ rfl
  obtain rfl := relI hrel
  match us, hr with
  | [v], ⟨hv, _⟩ =>
  obtain ⟨_, hv, _⟩ : 0 < E.n ∧ v = E.sl 0 ∧ v.oneCell' = true := hv
  subst hv
  obtain ⟨hn, hown⟩ := hown
  rw [List.length_map] at hown
  rcases hown with ⟨hs0, hn0⟩ | ⟨g, cap, cur, hs, hg0, hb, hnc, hcm, hsz, htk⟩
  · have hz0 : zs = [] := List.length_eq_zero_iff.1 (by simpa using hn0)
    subst hz0
    rw [hs0]
    refine (h0 none 0 w).mono fun e w' ⟨he, hw⟩ => ?_
    subst hw
    have e0 : sortL [] = [] := by simp [sortL]
    exact ⟨_, E, he, by rw [e0]; exact hp, tup0, hfx⟩
  · rw [hs]
    have hH : Holds (Value.int .i64) w g 0 zs.toArray := holds_of_blockI hb (by simpa using htk)
    have hlt : g < w.heap.size := (Array.getElem?_eq_some_iff.1 hb).1
    refine (h1 g cap zs w hH hlt hz).mono fun e2 w' ⟨he, n, os, hw⟩ => ?_
    refine ⟨_, E, he, ?_, tup0, hfx⟩
    subst hw
    have hgb := grownBy_sortedI (w := w) (g := g) (n := n) (os := os) (zs.mergeSort fun x y => decide (x ≤ y)).toArray
    have hlen2 : (sortL zs).length = zs.length := List.length_mergeSort ..
    have hown' := ownsRow_sortedI (w := w) (base := 0) (n := n) (os := os) (ss := zs) (ts := sortL zs) hlen2 (Nat.zero_le _) hb hnc hcm (by omega)
    have hsl : ∀ b, Ow E 0 (rowI e zs) b ↔ b = g := fun b => by
      show (E.sl 0).ownBlock = some b ↔ _
      rw [hs]
      simp only [Value.ownBlock, Option.some.injEq]
      exact eq_comm
    have hsl2 : ∀ b, Ow E 0 (rowI e (sortL zs)) b ↔ b = g := hsl
    refine hp.turnTo (it := 0) (x := rowI e zs) (y := rowI e (sortL zs)) (E' := E) rfl hgb.size hgb.os hgb.tape hgb.output (fun b hb2 hno => hgb.block b hb2 (fun e => hno ((hsl b).2 (by simpa using e)))) rfl rfl rfl (fun _ _ => rfl) (fun _ _ => rfl) (fun b hb2 => ?_) ?_
    · have := (hsl2 b).1 hb2
      subst this
      exact ⟨.inl ((hsl b).2 rfl), Nat.lt_of_lt_of_le hlt hgb.size⟩
    · refine ⟨(sortL zs).map (Value.int .i64), ?_, relI' _, fun l hl => ?_, stI _⟩
      · rw [List.length_map, hlen2, hs]
        exact hown'
      · obtain ⟨m, _, rfl⟩ := List.mem_map.1 hl
        rfl
/-- .. and of its Clone, of a row that the caller owns. -/
theorem clone_m {P : Program} {f : FuncId} {e : TypeId} (hok : FnOk P f)
    (h1 : ∀ (b n c : Nat) (zs : List Int) (w : World), n ≤ zs.length → n * 8 ≤ 140737488355328 → (∀ j, j < zs.length → w.cell? ⟨b, 0 + j, none⟩ = some (.int .i64 (zs.getD j 0))) → Calls P f #[.slice (some ⟨b, 0, none⟩) n c] w fun r w' => ∃ v', r = .returned v' ∧ w'.ownsRow w.heap.size e 1 v' n ((zs.take n).map (Value.int .i64)) ∧ v' ≠ .slice none 0 0 ∧ Below w.heap.size w w')
    (h0 : ∀ (n c : Nat) (w : World), Calls P f #[.slice none n c] w fun r w' => r = .returned (.slice none 0 0) ∧ w' = w)
    (zs : List Int) (hz : zs.length ≤ 1000000) (fx : List XC) : FnM P f [.c (.ow 0)] [rowI e zs] fx (.c (.ow 1)) [rowI e zs, rowI e zs] := by
  refine ⟨hok, fun w0 F E w us vs hp hr hfx => ?_⟩
  obtain ⟨ys, hown0, hrel, hlen, hst⟩ := hp.ok 0 _ rfl
  obtain rfl := relI hrel
  have hn1 : E.n = 1 := hp.n
  match us, hr with
  | [v], ⟨hv, _⟩ =>
  obtain ⟨_, hv, _⟩ : 0 < E.n ∧ v = E.sl 0 ∧ v.oneCell' = true := hv
  subst hv
  obtain ⟨hn, hown⟩ := hown0
  rw [List.length_map] at hown
  have fin : ∀ (v' : Value) (w' : World), w'.ownsRow w.heap.size e 1 v' zs.length (zs.map (Value.int .i64)) → Below w.heap.size w w' → ∃ u E', Ending.returned v' = .returned u ∧ Heap w0 F E' [rowI e zs, rowI e zs] w' ∧ RelV E' (.c (.ow 1)) u ∧ RelL E' fx vs := fun v' w' ho hb => by
    refine ⟨v', E.push 0 v', rfl, ?_, ?_, hfx.mono (Env.push_le _ _ _)⟩
    · have hs : (E.push 0 v').sl E.n = v' := by simp [Env.push]
      refine hp.push (x := rowI e zs) ⟨hb.os, hb.tape, hb.output, hb.size, fun k hk _ => hb.block k hk⟩ ⟨zs.map (Value.int .i64), ?_, relI' _, fun l hl => ?_, stI _⟩ (fun c hc => ?_)
      · rw [List.length_map, hs]
        refine ⟨ho.1, ?_⟩
        rcases ho.2 with h | ⟨g, cap, cur, h1, _, h2⟩
        · exact .inl h
        · exact .inr ⟨g, cap, cur, h1, Nat.zero_le _, h2⟩
      · obtain ⟨m, _, rfl⟩ := List.mem_map.1 hl
        rfl
      · have hc : ((E.push 0 v').sl E.n).ownBlock = some c := hc
        rw [hs] at hc
        exact ho.lt c hc
    · refine ⟨by simp [Env.push, hn1], by simp [Env.push, hn1], ?_⟩
      rcases ho.2 with ⟨h, _⟩ | ⟨g, cap, cur, h, _⟩ <;> rw [h] <;> rfl
  rcases hown with ⟨hs0, hn0⟩ | ⟨g, cap, cur, hs, hg0, hb, hnc, hcm, hsz, htk⟩
  · have hz0 : zs = [] := List.length_eq_zero_iff.1 (by simpa using hn0)
    subst hz0
    rw [hs0]
    refine (h0 0 0 w).mono fun r w' ⟨he, hw⟩ => ?_
    subst hw
    subst he
    exact fin _ _ (World.ownsRow_nil ..) (Below.refl ..)
  · rw [hs]
    refine (h1 g zs.length cap zs w (Nat.le_refl _) (by omega) (fun j hj => ?_)).mono fun r w' ⟨v', he, ho, _, hb⟩ => ?_
    · have hr : w.ownsRow 0 e 1 (.slice (some ⟨g, 0, none⟩) zs.length cap) zs.length (zs.map (Value.int .i64)) := ⟨by simp, .inr ⟨g, cap, cur, rfl, hg0, hb, hnc, hcm, hsz, htk⟩⟩
      have h2 := hr.cellAt j (by omega)
      rw [Nat.zero_add, h2]
      simp [List.getD, List.getElem?_eq_getElem hj]
    · subst he
      rw [List.take_length] at ho
      exact fin _ _ ho hb
/-- .. and of its Clone, of a row that does not turn. -/
theorem clone_f {P : Program} {f : FuncId} {e : TypeId} (hok : FnOk P f)
    (h1 : ∀ (b off n c : Nat) (zs : List Int) (w : World), n ≤ zs.length → n * 8 ≤ 140737488355328 → (∀ j, j < zs.length → w.cell? ⟨b, off + j, none⟩ = some (.int .i64 (zs.getD j 0))) → Calls P f #[.slice (some ⟨b, off, none⟩) n c] w fun r w' => ∃ v', r = .returned v' ∧ w'.ownsRow w.heap.size e 1 v' n ((zs.take n).map (Value.int .i64)) ∧ v' ≠ .slice none 0 0 ∧ Below w.heap.size w w')
    (hz : ∀ (a : Addr) (c : Nat) (w : World), Calls P f #[.slice (some a) 0 c] w fun r w' => ∃ v', r = .returned v' ∧ w'.ownsRow w.heap.size e 1 v' 0 [] ∧ v' ≠ .slice none 0 0 ∧ Below w.heap.size w w')
    (h0 : ∀ (n c : Nat) (w : World), Calls P f #[.slice none n c] w fun r w' => r = .returned (.slice none 0 0) ∧ w' = w)
    (zs : List Int) (hlen : zs.length ≤ 1000000) (fx : List XC) : FnM P f [.c (.rs zs.length 1 fun i _ => .i .i64 (zs.getD i 0))] [] fx (.c (.ow 0)) [rowI e zs] := by
  refine ⟨hok, fun w0 F E w us vs hp hr hfx => ?_⟩
  have hn1 : E.n = 0 := hp.n
  match us, hr with
  | [v], ⟨hv, _⟩ =>
  obtain ⟨A, c, hv, hnc, hcm, hc⟩ : ∃ (A : Option Addr) (c : Nat), v = .slice A zs.length c ∧ zs.length ≤ c ∧ c ≤ maxLen ∧ ∀ i, i < zs.length → ∃ ad, A = some ad ∧ ∀ j, j < 1 → E.bs.B ad.block ∧ ∃ u, E.bs.wb.cell? (ad.add (i * 1 + j)) = some u ∧ St (.i .i64 (zs.getD i 0)) ∧ RelC E (.i .i64 (zs.getD i 0)) u := hv
  subst hv
  have fin : ∀ (v' : Value) (w' : World), w'.ownsRow w.heap.size e 1 v' zs.length (zs.map (Value.int .i64)) → Below w.heap.size w w' → ∃ u E', Ending.returned v' = .returned u ∧ Heap w0 F E' [rowI e zs] w' ∧ RelV E' (.c (.ow 0)) u ∧ RelL E' fx vs := fun v' w' ho hb => by
    refine ⟨v', E.push 0 v', rfl, ?_, ?_, hfx.mono (Env.push_le _ _ _)⟩
    · have hs : (E.push 0 v').sl E.n = v' := by simp [Env.push]
      refine hp.push (x := rowI e zs) ⟨hb.os, hb.tape, hb.output, hb.size, fun k hk _ => hb.block k hk⟩ ⟨zs.map (Value.int .i64), ?_, relI' _, fun l hl => ?_, stI _⟩ (fun c hc => ?_)
      · rw [List.length_map, hs]
        refine ⟨ho.1, ?_⟩
        rcases ho.2 with h | ⟨g, cap, cur, h1, _, h2⟩
        · exact .inl h
        · exact .inr ⟨g, cap, cur, h1, Nat.zero_le _, h2⟩
      · obtain ⟨m, _, rfl⟩ := List.mem_map.1 hl
        rfl
      · have hc : ((E.push 0 v').sl E.n).ownBlock = some c := hc
        rw [hs] at hc
        exact ho.lt c hc
    · refine ⟨by simp [Env.push, hn1], by simp [Env.push, hn1], ?_⟩
      rcases ho.2 with ⟨h, _⟩ | ⟨g, cap, cur, h, _⟩ <;> rw [h] <;> rfl
  cases A with
  | none =>
    have hz0 : zs.length = 0 := by
      by_cases h : zs.length = 0
      · exact h
      · obtain ⟨ad, h2, _⟩ := hc 0 (by omega)
        cases h2
    have hz1 : zs = [] := List.length_eq_zero_iff.1 hz0
    refine (h0 zs.length c w).mono fun r w' ⟨he, hw⟩ => ?_
    subst hw
    subst he
    subst hz1
    exact fin _ _ (World.ownsRow_nil ..) (Below.refl ..)
  | some ad =>
    by_cases hz0 : zs.length = 0
    · have hz1 : zs = [] := List.length_eq_zero_iff.1 hz0
      subst hz1
      refine (hz ad c w).mono fun r w' ⟨v', he, ho, _, hb⟩ => ?_
      subst he
      exact fin _ _ ho hb
    · have cells : ∀ j, j < zs.length → w.cell? (ad.add j) = some (.int .i64 (zs.getD j 0)) := fun j hj => by
        obtain ⟨ad2, h2, h3⟩ := hc j hj
        cases h2
        obtain ⟨hB, u, hu, _, hu2⟩ := h3 0 (by omega)
        have hu2 : u = .int .i64 (zs.getD j 0) := hu2
        rw [Nat.mul_one, Nat.add_zero] at hu
        rw [← hu2, ← hu]
        have hb : (ad.add j).block = ad.block := by unfold Addr.add; split <;> rfl
        unfold World.cell?
        rw [hb, (hp.bs ad.block hB).2]
      have hsp : ad.spot = none := by
        have h5 : w.cell? ad = some (.int .i64 (zs.getD 0 0)) := cells 0 (by omega)
        unfold World.cell? at h5
        split at h5
        · split at h5
          · cases h5
          · rename_i h6
            cases h7 : ad.spot with
            | none => rfl
            | some _ => rw [h7] at h6; exact absurd rfl h6
        · cases h5
      obtain ⟨b, off, sp⟩ := ad
      obtain rfl : sp = none := hsp
      refine (h1 b off zs.length c zs w (Nat.le_refl _) (by omega) (fun j hj => ?_)).mono fun r w' ⟨v', he, ho, _, hb⟩ => ?_
      · have := cells j hj
        rw [← this]
        unfold Addr.add
        split
        · subst j; rfl
        · rfl
      · subst he
        rw [List.take_length] at ho
        exact fin _ _ ho hb
end Go.Eng
