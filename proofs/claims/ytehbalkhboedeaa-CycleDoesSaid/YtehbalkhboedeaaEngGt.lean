/- The engine, part Gt: the library's Delete at numbers, as a function that turns the caller's own row. Nothing of any program is proved here. -/
import Derived.Test.YtehbalkhboedeaaEngGi
namespace Go.Eng
open Go Go.RowKit Go.Sort Go.Proofs
set_option linter.unusedSimpArgs false
set_option linter.unusedVariables false
theorem delete_m {P : Program} {f : FuncId} {e : TypeId} (hok : FnOk P f) (i j : Nat)
    (h1 : ∀ (blk cap : Nat) (zs : List Int) (w : World), Holds (Value.int .i64) w blk 0 zs.toArray → zs.length ≤ cap → cap ≤ 9223372036854775807 → i ≤ j → j ≤ zs.length → Calls P f #[.slice (some ⟨blk, 0, none⟩) zs.length cap, .int .i64 i, .int .i64 j] w fun e w' => e = .returned (.slice (some ⟨blk, 0, none⟩) (zs.length - (j - i)) cap) ∧ ∃ q, w' = putRow (Value.int .i64) (Sort.ahead w q) blk 0 (zs.take i ++ zs.drop j ++ List.replicate (j - i) 0).toArray)
    (zs : List Int) (hij : i < j) (hj : j ≤ zs.length) : FnM P f [.c (.ow 0), .c (.i .i64 i), .c (.i .i64 j)] [rowI e zs] [] (.c (.ow 0)) [rowI e (zs.take i ++ zs.drop j)] := by
  refine ⟨hok, fun w0 F E w us vs hp hr hfx => ?_⟩
  obtain ⟨ys, hown, hrel, hlen, hst⟩ := hp.ok 0 _ rfl
  obtain rfl := relI hrel
  have hn1 : E.n = 1 := hp.n
  match us, hr with
  | [v, vi, vj], ⟨hv, hvi, hvj, _⟩ =>
  obtain ⟨_, hv, _⟩ : 0 < E.n ∧ v = E.sl 0 ∧ v.oneCell' = true := hv
  have hvi : vi = .int .i64 i := hvi
  have hvj : vj = .int .i64 j := hvj
  subst hv; subst hvi; subst hvj
  obtain ⟨hn, hown⟩ := hown
  rw [List.length_map] at hown
  rcases hown with ⟨hs0, hn0⟩ | ⟨g, cap, cur, hs, hg0, hb, hnc, hcm, hsz, htk⟩
  · have : zs.length = 0 := by simpa using hn0
    omega
  · rw [hs]
    have hH : Holds (Value.int .i64) w g 0 zs.toArray := holds_of_blockI hb (by simpa using htk)
    have hlt : g < w.heap.size := (Array.getElem?_eq_some_iff.1 hb).1
    refine (h1 g cap zs w hH hnc (by unfold maxLen at hcm; omega) (by omega) hj).mono fun e2 w' ⟨he, q, hw⟩ => ?_
    let ts : List Int := zs.take i ++ zs.drop j ++ List.replicate (j - i) 0
    have htl : ts.length = zs.length := by simp [ts]; omega
    let v' : Value := .slice (some ⟨g, 0, none⟩) (zs.length - (j - i)) cap
    let E' : Env := { E with sl := fun k => if k = 0 then v' else E.sl k }
    have hgr : w' = grow (putRow (Value.int .i64) (Sort.ahead w q) g 0 ts.toArray) #[] := by
      have hg : ∀ X : World, X = grow X #[] := fun X => by simp [grow]
      rw [← hg]; exact hw
    have hgb := grownBy_sortedI (w := w) (g := g) (n := q) (os := #[]) ts.toArray
    have hhp := heap_sortedI (n := q) (os := #[]) ts.toArray hb
    rw [← hgr] at hgb hhp
    have hrl : (zs.take i ++ zs.drop j).length = zs.length - (j - i) := by simp; omega
    have hsl : ∀ b, Ow E 0 (rowI e zs) b ↔ b = g := fun b => by
      show (E.sl 0).ownBlock = some b ↔ _
      rw [hs]
      simp only [Value.ownBlock, Option.some.injEq]
      exact eq_comm
    have hsl2 : ∀ b, Ow E' 0 (rowI e (zs.take i ++ zs.drop j)) b ↔ b = g := fun b => by
      show (E'.sl 0).ownBlock = some b ↔ _
      simp only [E', v', if_true, Value.ownBlock, Option.some.injEq]
      exact eq_comm
    refine ⟨v', E', he, ?_, ⟨by simp [E', hn1], by simp [E'], rfl⟩, ?_⟩
    · have hk : ∀ k, k ≠ 0 → E'.sl k = E.sl k := fun k hk => by simp [E', hk]
      refine hp.turnTo (it := 0) (x := rowI e zs) (y := rowI e (zs.take i ++ zs.drop j)) (E' := E') rfl hgb.size hgb.os hgb.tape hgb.output (fun b hb2 hno => hgb.block b hb2 (fun e => hno ((hsl b).2 (by simpa using e)))) rfl rfl rfl (fun _ _ => rfl) hk (fun b hb2 => ?_) ?_
      · have := (hsl2 b).1 hb2
        subst this
        exact ⟨.inl ((hsl b).2 rfl), Nat.lt_of_lt_of_le hlt hgb.size⟩
      · refine ⟨(zs.take i ++ zs.drop j).map (Value.int .i64), ?_, relI' _, fun l hl => ?_, stI _⟩
        · have e0 : E'.sl 0 = v' := by simp [E']
          rw [List.length_map, e0]
          refine ⟨by simp, .inr ⟨g, cap, _, by rw [hrl], hg0, hhp, by rw [hrl]; omega, hcm, by simp [putCells]; omega, ?_⟩⟩
          have h2 := take_putCellsI cur ts (by rw [htl]; omega)
          have h3 := congrArg (List.take ((zs.take i ++ zs.drop j).length * 1)) h2
          rw [List.take_take, Nat.min_eq_left (by rw [htl, hrl]; omega)] at h3
          rw [h3, Nat.mul_one, ← List.map_take]
          congr 1
          show ((zs.take i ++ zs.drop j) ++ List.replicate (j - i) 0).take _ = _
          exact List.take_left' rfl
        · obtain ⟨m, _, rfl⟩ := List.mem_map.1 hl
          rfl
    · match vs, hfx with
      | [], _ => trivial
end Go.Eng
