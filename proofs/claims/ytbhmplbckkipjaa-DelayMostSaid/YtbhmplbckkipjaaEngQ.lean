/- The engine, part Q: values that are one; worlds that a reading statement passes through. Nothing of any program is proved here. -/
import Derived.Test.YtbhmplbckkipjaaEngP
namespace Go.Eng
open Go Go.RowKit
set_option linter.unusedSimpArgs false
set_option linter.unusedVariables false

def finQ (dst : Option Tmp) (x : XV) (ts : List XV) (k : List XV → Prop) : Prop :=
  match dst with
  | some d => forceV x fun x => setK ts d x k
  | none => k ts
theorem finQ_eq (dst : Option Tmp) (x : XV) (ts : List XV) (k : List XV → Prop) : finQ dst x ts k = k (match dst with | some d => ts.set d x | none => ts) := by
  cases dst <;> simp only [finQ, forceV_eq, setK_eq]

section
variable {w0 : Org} {F : Nat → Prop} {E : Env} {h : List It} {w : World}
/-- The worlds that a reading statement passes through. -/
def Later (w : World) : World → Prop := fun w' => Fr (fun _ => False) w w'

theorem Heap.later (hp : Heap w0 F E h w) {w' : World} (hf : Later w w') : Heap w0 F E h w' := by
  have keep : ∀ k, k < w.heap.size → w'.heap[k]? = w.heap[k]? := fun k hk => hf.block k hk (fun x => x)
  refine ⟨fun k hB => ⟨Nat.lt_of_lt_of_le (hp.bs k hB).1 hf.size, (keep k (hp.bs k hB).1).trans (hp.bs k hB).2⟩, hp.le, hp.nb, hp.n, ?_, ?_, hp.sep, ?_⟩
  · intro k x hx
    exact (hp.ok k x hx).of_block fun b hb => keep b (hp.own k x b hx hb).1
  · intro k x b hx hb
    have h1 := hp.own k x b hx hb
    exact ⟨Nat.lt_of_lt_of_le h1.1 hf.size, h1.2⟩
  · exact ⟨hf.os.trans hp.fr.os, hf.tape.trans hp.fr.tape, hf.output.trans hp.fr.output, Nat.le_trans hp.fr.size hf.size,
      fun k hk hF => (keep k (Nat.lt_of_lt_of_le hk hp.fr.size)).trans (hp.fr.block k hk hF)⟩

theorem Heap.same (hp : Heap w0 F E h w) {w' : World} (hf : Later w w') (rd : Nat → Bool) : Same E h rd w w' :=
  ⟨(hp.later hf).bs, fun k x b hx _ hb => hf.block b (hp.own k x b hx hb).1 (fun x => x)⟩

end

/-- Values that are one, whatever memory is. -/
def detB : XV → Bool
  | .c (.v x) => x.oneCell'
  | .c (.il _ _) => true
  | .c (.i _ _) => true
  | .c .bt => true
  | .c .bf => true
  | .c (.b _) => true
  | _ => false
theorem detB_spec {v : XV} (hv : detB v = true) : ∃ u, (∀ E, RelV E v u) ∧ ∀ E u', RelV E v u' → u' = u := by
  match v, hv with
  | .c (.v x), hv => exact ⟨x, fun E => ⟨rfl, hv⟩, fun E u' h => h.1⟩
  | .c (.il k n), _ => exact ⟨_, fun E => (rfl : _ = Value.int k n), fun E u' h => h⟩
  | .c (.i k n), _ => exact ⟨_, fun E => (rfl : _ = Value.int k n), fun E u' h => h⟩
  | .c .bt, _ => exact ⟨_, fun E => (rfl : _ = Value.bool true), fun E u' h => h⟩
  | .c .bf, _ => exact ⟨_, fun E => (rfl : _ = Value.bool false), fun E u' h => h⟩
  | .c (.b x), _ => exact ⟨_, fun E => (rfl : _ = Value.bool x), fun E u' h => h⟩

end Go.Eng
