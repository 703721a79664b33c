/- The engine, part Gn: contracts whose answer is a row of its own, in drawn statements. Nothing of any program is proved here. -/
import Derived.Test.YtehbalkhboedeaaEngGk
namespace Go.Eng
open Go Go.RowKit
set_option linter.unusedSimpArgs false
set_option linter.unusedVariables false
/-- The answer is a row of its own. -/
def RowR (e : TypeId) (z : Nat) (xs : List (List XC)) (x : XV) (h' : List It) : Prop :=
  (x = .c (.v (.slice none 0 0)) ∧ xs = []) ∨ ∃ j ys, x = .c (.ow j) ∧ itemAt h' j = .row e z ys ∧ entLL ys xs
theorem flat_st {x : XC} (h : flatC x = true) : St x := by cases x <;> simp [flatC] at h <;> trivial
theorem flatL_app {a b : List XC} (h : flatL a = true) (h' : flatL b = true) : flatL (a ++ b) = true := by
  induction a with
  | nil => exact h'
  | cons x a ih =>
    unfold flatL at h
    split at h
    · rename_i h1
      simp only [List.cons_append]
      unfold flatL
      rw [h1]
      exact ih h
    · cases h
theorem flatL_mem : ∀ {l : List XC}, flatL l = true → ∀ x ∈ l, flatC x = true
  | y :: l, h, x, hx => by
    unfold flatL at h
    split at h
    · rename_i h1
      rcases List.mem_cons.1 hx with rfl | hx
      · exact h1
      · exact flatL_mem h x hx
    · cases h
  | [], _, _, hx => by simp at hx
theorem flatLL : ∀ {xs : List (List XC)} , (∀ l ∈ xs, flatL l = true) → flatL xs.flatten = true
  | [], _ => rfl
  | x :: xs, h => by simp only [List.flatten_cons]; exact flatL_app (h x (by simp)) (flatLL fun l hl => h l (by simp [hl]))
theorem callf_row {C : Cx} {f : FuncId} {args : List XV} {ts : List XV} {h : List It} {k : KE} {args' : List XV} {e : TypeId} {z : Nat} {xs : List (List XC)} (hf : Fn C.P f args' (RowR e z xs)) (hl : entVs (args.map (lendV h)) args') (hs : stXs args' = true)
    (hz : ∀ l ∈ xs, l.length = z) (hfl : ∀ l ∈ xs, flatL l = true) (hk : lenK h fun n => snocH h (.row e z xs) fun h' => k (.c (.ow n)) ts h') : CallF C f args ts h k := by
  rw [lenK_eq, snocH_eq] at hk
  unfold CallF
  refine ⟨hf.ok, fun w0 F E w vs us hr hargs hp => ?_⟩
  refine (hf.run (E.lent h w).bs w us hp.lent_ok (stXs_rel (E := E.lent h w) (E' := ⟨(E.lent h w).bs, 0, fun _ => 0, fun _ => undef, fun _ _ => False⟩) rfl hs (entVs_rel hl (lendTs_rel hp hargs)))).mono fun er w' ⟨u, x, h', E', he, hR, hx, hp'⟩ => ?_
  have hflat := flatLL hfl
  have key : ∃ ys, w'.ownsRow 0 e z u xs.length ys ∧ (∀ E2, RelL E2 xs.flatten ys) ∧ u.oneCell' = true ∧ ∀ b, u.ownBlock = some b → w.heap.size ≤ b ∧ b < w'.heap.size := by
    rcases hR with ⟨rfl, rfl⟩ | ⟨j, ys, rfl, hit, hent⟩
    · have hu : u = .slice none 0 0 := hx.1
      subst hu
      exact ⟨[], World.ownsRow_nil w' 0 e z, fun _ => trivial, rfl, fun b hb => by simp [Value.ownBlock] at hb⟩
    · obtain ⟨_, rfl, hone⟩ := hx
      have hi := itemAt_eq _ _ hit (by simp)
      obtain ⟨zs, hown, hrel, _, _⟩ := hp'.ok j _ hi
      rw [entLL_len hent] at hown
      refine ⟨zs, hown, fun E2 => flatL_rel hflat (entL_rel (entLL_flat hent) hrel), hone, fun b hb => ?_⟩
      have h1 := hp'.own j _ b hi hb
      rcases h1.2.2 with h2 | h2
      · exact ⟨h2, h1.1⟩
      · exact h2.elim
  obtain ⟨ys, hown, hrel, hone, hnew⟩ := key
  have hE := Env.push_le E 0 u
  have hp2 := hp.push (x := .row e z xs) (b := 0) (v := u) (S := fun _ => False) hp'.fr
    ⟨ys, by simpa [Env.push] using hown, hrel _, hz, fun x hx => flat_st (flatL_mem hflat x hx)⟩ (fun b hb => hnew b (by simpa [Ow, Env.push] using hb))
  refine ⟨u, _, ts, _, _, he, hk, ⟨?_, ?_, hone⟩, hr.mono hE, hp2, ⟨hp'.fr.size, fun b hb _ => hp'.fr.block b hb (fun x => x)⟩, After.push hp.n (fun c hc => (hnew c (by simpa [Ow, Env.push] using hc)).1)⟩
  · rw [← hp.n]; simp [Env.push]
  · simp [Env.push, hp.n]
end Go.Eng
