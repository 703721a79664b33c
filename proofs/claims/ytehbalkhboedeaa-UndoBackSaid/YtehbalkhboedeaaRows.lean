/-
  No cell of these rows narrows 'for every input' (looked for: loops, veiled, ifaces, maps, wideKeys, modest, calm, conditions, laid).
  DERIVED. THE GIVEN ROWS OF THIS SEAT. 6 by the template 'for every input the law returns true; each argument reads behind the call as it read before'; 0 by the template 'total and deterministic' (their statements: YtehbalkhboedeaaTotals.lean).
  GIVEN WITH THE SEED: the statements are not yours to turn. If you find one false, say at which input.
  Laid BY PROGRAM, IN A SANDBOX (cutbox-rows.mjs): the forced cells as the released guide's own fill.sh prints them over the translation f2afab58561507f9… (all of the seat's roots in one cut). By AI agents, Wed Nov 11 2026. No macro, syntax, notation, axiom, sorry.
-/
import Derived.Test.YtehbalkhboedeaaChecked
import GoSem.Claim
import GoSem.ClaimJoined
import GoSem.ClaimMapViews
import Derived.JoinedTies
import Derived.KernelRfl
namespace Go.Proofs.Ytehbalkhboedeaa
/- THE CELL 'sum', in the pinned program and in every row, IS THE sha256 OF THE DUMP (.gsa) THAT YtehbalkhboedeaaProg.lean LOADS. Nothing in Lean hashes anything: it is a label: what it is worth is what the hold of that sum in a sandbox is worth. -/
noncomputable def Try.pinned : Pinned := { name := "ytehbalkhboedeaa", sum := "f2afab58561507f9360d7c49b679cd29042fa9c1541bed0ec44332129679f465", checked := Try.checked }
namespace Rows
def none {H : Type} : Left H := { results := [], args := [] }

/-- 'escutcheonlaw21.UndoDoes': WHATEVER THE INPUT: true; the input reads as it did. -/
def undoDoesSpec : ChangeSpec := { name := "undoDoes", fn := fun _ => fun
  | [d] => { results := [.lit (.bool true)], args := [d] }
  | _ => none }
def undoDoesRow : OpenClaim := { program := "ytehbalkhboedeaa", sum := "f2afab58561507f9360d7c49b679cd29042fa9c1541bed0ec44332129679f465", func := "escutcheon/escutcheonlaw21.UndoDoes", spec := "undoDoes", unfollowed := true, recurses := true, plainKeys := false, apart := false }
def UndoDoesSaid : Prop := undoDoesRow.holds Try.pinned (OpenSpec.ofChange undoDoesSpec)

/-- ITS FALSE NEIGHBOUR: 'it returns false'. Refute it at one input. -/
def undoDoesWrong : ChangeSpec := { name := "undoDoes", fn := fun _ => fun
  | [d] => { results := [.lit (.bool false)], args := [d] }
  | _ => none }
def UndoDoesWrongFalsely : Prop := undoDoesRow.holds Try.pinned (OpenSpec.ofChange undoDoesWrong)

/-- 'escutcheonlaw21.UndoBack': WHATEVER THE INPUT: true; the input reads as it did. -/
def undoBackSpec : ChangeSpec := { name := "undoBack", fn := fun _ => fun
  | [d1, d2, d3] => { results := [.lit (.bool true)], args := [d1, d2, d3] }
  | _ => none }
def undoBackRow : OpenClaim := { program := "ytehbalkhboedeaa", sum := "f2afab58561507f9360d7c49b679cd29042fa9c1541bed0ec44332129679f465", func := "escutcheon/escutcheonlaw21.UndoBack", spec := "undoBack", unfollowed := true, recurses := true, plainKeys := false, apart := false }
def UndoBackSaid : Prop := undoBackRow.holds Try.pinned (OpenSpec.ofChange undoBackSpec)

/-- ITS FALSE NEIGHBOUR: 'it returns false'. Refute it at one input. -/
def undoBackWrong : ChangeSpec := { name := "undoBack", fn := fun _ => fun
  | [d1, d2, d3] => { results := [.lit (.bool false)], args := [d1, d2, d3] }
  | _ => none }
def UndoBackWrongFalsely : Prop := undoBackRow.holds Try.pinned (OpenSpec.ofChange undoBackWrong)

/-- 'escutcheonlaw15.CycleReach': WHATEVER THE INPUT: true; the input reads as it did. -/
def cycleReachSpec : ChangeSpec := { name := "cycleReach", fn := fun _ => fun
  | [d1, d2] => { results := [.lit (.bool true)], args := [d1, d2] }
  | _ => none }
def cycleReachRow : OpenClaim := { program := "ytehbalkhboedeaa", sum := "f2afab58561507f9360d7c49b679cd29042fa9c1541bed0ec44332129679f465", func := "escutcheon/escutcheonlaw15.CycleReach", spec := "cycleReach", unfollowed := true, recurses := true, plainKeys := false, apart := false }
def CycleReachSaid : Prop := cycleReachRow.holds Try.pinned (OpenSpec.ofChange cycleReachSpec)

/-- ITS FALSE NEIGHBOUR: 'it returns false'. Refute it at one input. -/
def cycleReachWrong : ChangeSpec := { name := "cycleReach", fn := fun _ => fun
  | [d1, d2] => { results := [.lit (.bool false)], args := [d1, d2] }
  | _ => none }
def CycleReachWrongFalsely : Prop := cycleReachRow.holds Try.pinned (OpenSpec.ofChange cycleReachWrong)

/-- 'escutcheonlaw16.VictimRings': WHATEVER THE INPUT: true; the input reads as it did. -/
def victimRingsSpec : ChangeSpec := { name := "victimRings", fn := fun _ => fun
  | [d1, d2, d3] => { results := [.lit (.bool true)], args := [d1, d2, d3] }
  | _ => none }
def victimRingsRow : OpenClaim := { program := "ytehbalkhboedeaa", sum := "f2afab58561507f9360d7c49b679cd29042fa9c1541bed0ec44332129679f465", func := "escutcheon/escutcheonlaw16.VictimRings", spec := "victimRings", unfollowed := true, recurses := true, plainKeys := false, apart := false }
def VictimRingsSaid : Prop := victimRingsRow.holds Try.pinned (OpenSpec.ofChange victimRingsSpec)

/-- ITS FALSE NEIGHBOUR: 'it returns false'. Refute it at one input. -/
def victimRingsWrong : ChangeSpec := { name := "victimRings", fn := fun _ => fun
  | [d1, d2, d3] => { results := [.lit (.bool false)], args := [d1, d2, d3] }
  | _ => none }
def VictimRingsWrongFalsely : Prop := victimRingsRow.holds Try.pinned (OpenSpec.ofChange victimRingsWrong)

/-- 'escutcheonlaw15.CycleDoes': WHATEVER THE INPUT: true; the input reads as it did. -/
def cycleDoesSpec : ChangeSpec := { name := "cycleDoes", fn := fun _ => fun
  | [d1, d2] => { results := [.lit (.bool true)], args := [d1, d2] }
  | _ => none }
def cycleDoesRow : OpenClaim := { program := "ytehbalkhboedeaa", sum := "f2afab58561507f9360d7c49b679cd29042fa9c1541bed0ec44332129679f465", func := "escutcheon/escutcheonlaw15.CycleDoes", spec := "cycleDoes", unfollowed := true, recurses := true, plainKeys := false, apart := false }
def CycleDoesSaid : Prop := cycleDoesRow.holds Try.pinned (OpenSpec.ofChange cycleDoesSpec)

/-- ITS FALSE NEIGHBOUR: 'it returns false'. Refute it at one input. -/
def cycleDoesWrong : ChangeSpec := { name := "cycleDoes", fn := fun _ => fun
  | [d1, d2] => { results := [.lit (.bool false)], args := [d1, d2] }
  | _ => none }
def CycleDoesWrongFalsely : Prop := cycleDoesRow.holds Try.pinned (OpenSpec.ofChange cycleDoesWrong)

/-- 'escutcheonlaw15.CycleOrder': WHATEVER THE INPUT: true; the input reads as it did. -/
def cycleOrderSpec : ChangeSpec := { name := "cycleOrder", fn := fun _ => fun
  | [d] => { results := [.lit (.bool true)], args := [d] }
  | _ => none }
def cycleOrderRow : OpenClaim := { program := "ytehbalkhboedeaa", sum := "f2afab58561507f9360d7c49b679cd29042fa9c1541bed0ec44332129679f465", func := "escutcheon/escutcheonlaw15.CycleOrder", spec := "cycleOrder", unfollowed := true, recurses := true, plainKeys := false, apart := false }
def CycleOrderSaid : Prop := cycleOrderRow.holds Try.pinned (OpenSpec.ofChange cycleOrderSpec)

/-- ITS FALSE NEIGHBOUR: 'it returns false'. Refute it at one input. -/
def cycleOrderWrong : ChangeSpec := { name := "cycleOrder", fn := fun _ => fun
  | [d] => { results := [.lit (.bool false)], args := [d] }
  | _ => none }
def CycleOrderWrongFalsely : Prop := cycleOrderRow.holds Try.pinned (OpenSpec.ofChange cycleOrderWrong)

/- THE SECOND FORM. 'bulk': how many values and letters a reading holds, each counted each time it is reached (what is shared counts as often as it is met; a slice's spare places count too). A statement '..UptoSaid' is the law's where the arguments, and the package variables that the reading takes, are together of bulk at most 1048576: NARROWER than '..Said'. Prove '..Said' where nothing that the law and all that it calls make is longer than what came in: it says more and counts as full. Else prove '..UptoSaid'. A law counts once. -/
mutual
def uptoBulk {H : Type} : DataW H → Nat
  | .lit (.string bytes) => bytes.length + 1
  | .lit _ => 1
  | .nil => 1
  | .ptr d => uptoBulk d + 1
  | .slice elems spare => uptoBulkAll elems + uptoBulkAll spare + 1
  | .agg parts => uptoBulkAll parts + 1
  | .iface _ d => uptoBulk d + 1
  | .map entries => uptoBulkEntries entries + 1
  | .held _ => 1
def uptoBulkAll {H : Type} : List (DataW H) → Nat
  | [] => 0
  | d :: r => uptoBulk d + uptoBulkAll r
def uptoBulkEntries {H : Type} : List (Lit × DataW H) → Nat
  | [] => 0
  | x :: r => uptoBulkEntry x + uptoBulkEntries r
def uptoBulkEntry {H : Type} : Lit × DataW H → Nat
  | (.string bytes, d) => bytes.length + uptoBulk d + 1
  | (_, d) => uptoBulk d + 1
 end
def uptoSmall : (H : Type) → List (DataW H) → Bool := fun _ ds => decide (uptoBulkAll ds ≤ 1048576)
def OpenSpec.upto (s : _root_.Go.ChangeSpec) : _root_.Go.OpenSpec := { _root_.Go.OpenSpec.ofChange s with cond := some uptoSmall }

/-- 'escutcheonlaw21.UndoDoes', WHERE WHAT IT READS IS OF BULK AT MOST 1048576: true; the input reads as it did. -/
def undoDoesUptoRow : OpenClaim := { program := "ytehbalkhboedeaa", sum := "f2afab58561507f9360d7c49b679cd29042fa9c1541bed0ec44332129679f465", func := "escutcheon/escutcheonlaw21.UndoDoes", spec := "undoDoes", unfollowed := true, recurses := true, plainKeys := false, apart := false, narrowed := true }
def UndoDoesUptoSaid : Prop := undoDoesUptoRow.holds Try.pinned (OpenSpec.upto undoDoesSpec)

/-- 'escutcheonlaw21.UndoBack', WHERE WHAT IT READS IS OF BULK AT MOST 1048576: true; the input reads as it did. -/
def undoBackUptoRow : OpenClaim := { program := "ytehbalkhboedeaa", sum := "f2afab58561507f9360d7c49b679cd29042fa9c1541bed0ec44332129679f465", func := "escutcheon/escutcheonlaw21.UndoBack", spec := "undoBack", unfollowed := true, recurses := true, plainKeys := false, apart := false, narrowed := true }
def UndoBackUptoSaid : Prop := undoBackUptoRow.holds Try.pinned (OpenSpec.upto undoBackSpec)

/-- 'escutcheonlaw15.CycleReach', WHERE WHAT IT READS IS OF BULK AT MOST 1048576: true; the input reads as it did. -/
def cycleReachUptoRow : OpenClaim := { program := "ytehbalkhboedeaa", sum := "f2afab58561507f9360d7c49b679cd29042fa9c1541bed0ec44332129679f465", func := "escutcheon/escutcheonlaw15.CycleReach", spec := "cycleReach", unfollowed := true, recurses := true, plainKeys := false, apart := false, narrowed := true }
def CycleReachUptoSaid : Prop := cycleReachUptoRow.holds Try.pinned (OpenSpec.upto cycleReachSpec)

/-- 'escutcheonlaw16.VictimRings', WHERE WHAT IT READS IS OF BULK AT MOST 1048576: true; the input reads as it did. -/
def victimRingsUptoRow : OpenClaim := { program := "ytehbalkhboedeaa", sum := "f2afab58561507f9360d7c49b679cd29042fa9c1541bed0ec44332129679f465", func := "escutcheon/escutcheonlaw16.VictimRings", spec := "victimRings", unfollowed := true, recurses := true, plainKeys := false, apart := false, narrowed := true }
def VictimRingsUptoSaid : Prop := victimRingsUptoRow.holds Try.pinned (OpenSpec.upto victimRingsSpec)

/-- 'escutcheonlaw15.CycleDoes', WHERE WHAT IT READS IS OF BULK AT MOST 1048576: true; the input reads as it did. -/
def cycleDoesUptoRow : OpenClaim := { program := "ytehbalkhboedeaa", sum := "f2afab58561507f9360d7c49b679cd29042fa9c1541bed0ec44332129679f465", func := "escutcheon/escutcheonlaw15.CycleDoes", spec := "cycleDoes", unfollowed := true, recurses := true, plainKeys := false, apart := false, narrowed := true }
def CycleDoesUptoSaid : Prop := cycleDoesUptoRow.holds Try.pinned (OpenSpec.upto cycleDoesSpec)

/-- 'escutcheonlaw15.CycleOrder', WHERE WHAT IT READS IS OF BULK AT MOST 1048576: true; the input reads as it did. -/
def cycleOrderUptoRow : OpenClaim := { program := "ytehbalkhboedeaa", sum := "f2afab58561507f9360d7c49b679cd29042fa9c1541bed0ec44332129679f465", func := "escutcheon/escutcheonlaw15.CycleOrder", spec := "cycleOrder", unfollowed := true, recurses := true, plainKeys := false, apart := false, narrowed := true }
def CycleOrderUptoSaid : Prop := cycleOrderUptoRow.holds Try.pinned (OpenSpec.upto cycleOrderSpec)

end Rows
end Go.Proofs.Ytehbalkhboedeaa
