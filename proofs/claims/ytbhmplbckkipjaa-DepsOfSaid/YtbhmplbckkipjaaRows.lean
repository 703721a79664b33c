/-
  No cell of these rows narrows 'for every input' (looked for: loops, veiled, ifaces, maps, wideKeys, modest, calm, conditions, laid).
  DERIVED. THE GIVEN ROWS OF THIS SEAT. 11 by the template 'for every input the law returns true; each argument reads behind the call as it read before'; 0 by the template 'total and deterministic' (their statements: YtbhmplbckkipjaaTotals.lean).
  GIVEN WITH THE SEED: the statements are not yours to turn. If you find one false, say at which input.
  Laid BY PROGRAM, IN A SANDBOX (cutbox-rows.mjs): the forced cells as the released guide's own fill.sh prints them over the translation 93291b41596638dd… (all of the seat's roots in one cut). By AI agents, Wed Nov 11 2026. No macro, syntax, notation, axiom, sorry.
-/
import Derived.Test.YtbhmplbckkipjaaChecked
import GoSem.Claim
import GoSem.ClaimJoined
import GoSem.ClaimMapViews
import Derived.JoinedTies
import Derived.KernelRfl
namespace Go.Proofs.Ytbhmplbckkipjaa
/- THE CELL 'sum', in the pinned program and in every row, IS THE sha256 OF THE DUMP (.gsa) THAT YtbhmplbckkipjaaProg.lean LOADS. Nothing in Lean hashes anything: it is a label: what it is worth is what the hold of that sum in a sandbox is worth. -/
noncomputable def Try.pinned : Pinned := { name := "ytbhmplbckkipjaa", sum := "93291b41596638dda15333a47bbaa76d6c684324cc881316f990e5ee3e2efe12", checked := Try.checked }
namespace Rows
def none {H : Type} : Left H := { results := [], args := [] }

/-- 'escutcheonlaw26.ScriptBounds': WHATEVER THE INPUT: true; the input reads as it did. -/
def scriptBoundsSpec : ChangeSpec := { name := "scriptBounds", fn := fun _ => fun
  | [d1, d2] => { results := [.lit (.bool true)], args := [d1, d2] }
  | _ => none }
def scriptBoundsRow : OpenClaim := { program := "ytbhmplbckkipjaa", sum := "93291b41596638dda15333a47bbaa76d6c684324cc881316f990e5ee3e2efe12", func := "escutcheon/escutcheonlaw26.ScriptBounds", spec := "scriptBounds", plainKeys := false, apart := false }
def ScriptBoundsSaid : Prop := scriptBoundsRow.holds Try.pinned (OpenSpec.ofChange scriptBoundsSpec)

/-- ITS FALSE NEIGHBOUR: 'it returns false'. Refute it at one input. -/
def scriptBoundsWrong : ChangeSpec := { name := "scriptBounds", fn := fun _ => fun
  | [d1, d2] => { results := [.lit (.bool false)], args := [d1, d2] }
  | _ => none }
def ScriptBoundsWrongFalsely : Prop := scriptBoundsRow.holds Try.pinned (OpenSpec.ofChange scriptBoundsWrong)

/-- 'escutcheonlaw39.FootDoes': WHATEVER THE INPUT: true; the input reads as it did. -/
def footDoesSpec : ChangeSpec := { name := "footDoes", fn := fun _ => fun
  | [d1, d2, d3, d4] => { results := [.lit (.bool true)], args := [d1, d2, d3, d4] }
  | _ => none }
def footDoesRow : OpenClaim := { program := "ytbhmplbckkipjaa", sum := "93291b41596638dda15333a47bbaa76d6c684324cc881316f990e5ee3e2efe12", func := "escutcheon/escutcheonlaw39.FootDoes", spec := "footDoes", unfollowed := true, recurses := true, plainKeys := false, apart := false }
def FootDoesSaid : Prop := footDoesRow.holds Try.pinned (OpenSpec.ofChange footDoesSpec)

/-- ITS FALSE NEIGHBOUR: 'it returns false'. Refute it at one input. -/
def footDoesWrong : ChangeSpec := { name := "footDoes", fn := fun _ => fun
  | [d1, d2, d3, d4] => { results := [.lit (.bool false)], args := [d1, d2, d3, d4] }
  | _ => none }
def FootDoesWrongFalsely : Prop := footDoesRow.holds Try.pinned (OpenSpec.ofChange footDoesWrong)

/-- 'escutcheonlaw39.FootSides': WHATEVER THE INPUT: true; the input reads as it did. -/
def footSidesSpec : ChangeSpec := { name := "footSides", fn := fun _ => fun
  | [d1, d2, d3] => { results := [.lit (.bool true)], args := [d1, d2, d3] }
  | _ => none }
def footSidesRow : OpenClaim := { program := "ytbhmplbckkipjaa", sum := "93291b41596638dda15333a47bbaa76d6c684324cc881316f990e5ee3e2efe12", func := "escutcheon/escutcheonlaw39.FootSides", spec := "footSides", unfollowed := true, recurses := true, plainKeys := false, apart := false }
def FootSidesSaid : Prop := footSidesRow.holds Try.pinned (OpenSpec.ofChange footSidesSpec)

/-- ITS FALSE NEIGHBOUR: 'it returns false'. Refute it at one input. -/
def footSidesWrong : ChangeSpec := { name := "footSides", fn := fun _ => fun
  | [d1, d2, d3] => { results := [.lit (.bool false)], args := [d1, d2, d3] }
  | _ => none }
def FootSidesWrongFalsely : Prop := footSidesRow.holds Try.pinned (OpenSpec.ofChange footSidesWrong)

/-- 'escutcheonlaw26.ScriptTakes': WHATEVER THE INPUT: true; the input reads as it did. -/
def scriptTakesSpec : ChangeSpec := { name := "scriptTakes", fn := fun _ => fun
  | [d] => { results := [.lit (.bool true)], args := [d] }
  | _ => none }
def scriptTakesRow : OpenClaim := { program := "ytbhmplbckkipjaa", sum := "93291b41596638dda15333a47bbaa76d6c684324cc881316f990e5ee3e2efe12", func := "escutcheon/escutcheonlaw26.ScriptTakes", spec := "scriptTakes", unfollowed := true, recurses := true, plainKeys := false, apart := false }
def ScriptTakesSaid : Prop := scriptTakesRow.holds Try.pinned (OpenSpec.ofChange scriptTakesSpec)

/-- ITS FALSE NEIGHBOUR: 'it returns false'. Refute it at one input. -/
def scriptTakesWrong : ChangeSpec := { name := "scriptTakes", fn := fun _ => fun
  | [d] => { results := [.lit (.bool false)], args := [d] }
  | _ => none }
def ScriptTakesWrongFalsely : Prop := scriptTakesRow.holds Try.pinned (OpenSpec.ofChange scriptTakesWrong)

/-- 'escutcheonlaw26.ScriptBack': WHATEVER THE INPUT: true; the input reads as it did. -/
def scriptBackSpec : ChangeSpec := { name := "scriptBack", fn := fun _ => fun
  | [d] => { results := [.lit (.bool true)], args := [d] }
  | _ => none }
def scriptBackRow : OpenClaim := { program := "ytbhmplbckkipjaa", sum := "93291b41596638dda15333a47bbaa76d6c684324cc881316f990e5ee3e2efe12", func := "escutcheon/escutcheonlaw26.ScriptBack", spec := "scriptBack", plainKeys := false, apart := false }
def ScriptBackSaid : Prop := scriptBackRow.holds Try.pinned (OpenSpec.ofChange scriptBackSpec)

/-- ITS FALSE NEIGHBOUR: 'it returns false'. Refute it at one input. -/
def scriptBackWrong : ChangeSpec := { name := "scriptBack", fn := fun _ => fun
  | [d] => { results := [.lit (.bool false)], args := [d] }
  | _ => none }
def ScriptBackWrongFalsely : Prop := scriptBackRow.holds Try.pinned (OpenSpec.ofChange scriptBackWrong)

/-- 'escutcheonlaw26.ScriptPuts': WHATEVER THE INPUT: true; the input reads as it did. -/
def scriptPutsSpec : ChangeSpec := { name := "scriptPuts", fn := fun _ => fun
  | [d1, d2, d3] => { results := [.lit (.bool true)], args := [d1, d2, d3] }
  | _ => none }
def scriptPutsRow : OpenClaim := { program := "ytbhmplbckkipjaa", sum := "93291b41596638dda15333a47bbaa76d6c684324cc881316f990e5ee3e2efe12", func := "escutcheon/escutcheonlaw26.ScriptPuts", spec := "scriptPuts", unfollowed := true, recurses := true, plainKeys := false, apart := false }
def ScriptPutsSaid : Prop := scriptPutsRow.holds Try.pinned (OpenSpec.ofChange scriptPutsSpec)

/-- ITS FALSE NEIGHBOUR: 'it returns false'. Refute it at one input. -/
def scriptPutsWrong : ChangeSpec := { name := "scriptPuts", fn := fun _ => fun
  | [d1, d2, d3] => { results := [.lit (.bool false)], args := [d1, d2, d3] }
  | _ => none }
def ScriptPutsWrongFalsely : Prop := scriptPutsRow.holds Try.pinned (OpenSpec.ofChange scriptPutsWrong)

/-- 'escutcheonlaw42.DelayRises': WHATEVER THE INPUT: true; the input reads as it did. -/
def delayRisesSpec : ChangeSpec := { name := "delayRises", fn := fun _ => fun
  | [d1, d2, d3, d4] => { results := [.lit (.bool true)], args := [d1, d2, d3, d4] }
  | _ => none }
def delayRisesRow : OpenClaim := { program := "ytbhmplbckkipjaa", sum := "93291b41596638dda15333a47bbaa76d6c684324cc881316f990e5ee3e2efe12", func := "escutcheon/escutcheonlaw42.DelayRises", spec := "delayRises", recurses := true, plainKeys := false, apart := false }
def DelayRisesSaid : Prop := delayRisesRow.holds Try.pinned (OpenSpec.ofChange delayRisesSpec)

/-- ITS FALSE NEIGHBOUR: 'it returns false'. Refute it at one input. -/
def delayRisesWrong : ChangeSpec := { name := "delayRises", fn := fun _ => fun
  | [d1, d2, d3, d4] => { results := [.lit (.bool false)], args := [d1, d2, d3, d4] }
  | _ => none }
def DelayRisesWrongFalsely : Prop := delayRisesRow.holds Try.pinned (OpenSpec.ofChange delayRisesWrong)

/-- 'escutcheonlaw42.DelayMost': WHATEVER THE INPUT: true; the input reads as it did. -/
def delayMostSpec : ChangeSpec := { name := "delayMost", fn := fun _ => fun
  | [d1, d2, d3] => { results := [.lit (.bool true)], args := [d1, d2, d3] }
  | _ => none }
def delayMostRow : OpenClaim := { program := "ytbhmplbckkipjaa", sum := "93291b41596638dda15333a47bbaa76d6c684324cc881316f990e5ee3e2efe12", func := "escutcheon/escutcheonlaw42.DelayMost", spec := "delayMost", unfollowed := true, recurses := true, plainKeys := false, apart := false }
def DelayMostSaid : Prop := delayMostRow.holds Try.pinned (OpenSpec.ofChange delayMostSpec)

/-- ITS FALSE NEIGHBOUR: 'it returns false'. Refute it at one input. -/
def delayMostWrong : ChangeSpec := { name := "delayMost", fn := fun _ => fun
  | [d1, d2, d3] => { results := [.lit (.bool false)], args := [d1, d2, d3] }
  | _ => none }
def DelayMostWrongFalsely : Prop := delayMostRow.holds Try.pinned (OpenSpec.ofChange delayMostWrong)

/-- 'escutcheonlaw42.DelayDoes': WHATEVER THE INPUT: true; the input reads as it did. -/
def delayDoesSpec : ChangeSpec := { name := "delayDoes", fn := fun _ => fun
  | [d1, d2, d3] => { results := [.lit (.bool true)], args := [d1, d2, d3] }
  | _ => none }
def delayDoesRow : OpenClaim := { program := "ytbhmplbckkipjaa", sum := "93291b41596638dda15333a47bbaa76d6c684324cc881316f990e5ee3e2efe12", func := "escutcheon/escutcheonlaw42.DelayDoes", spec := "delayDoes", unfollowed := true, recurses := true, plainKeys := false, apart := false }
def DelayDoesSaid : Prop := delayDoesRow.holds Try.pinned (OpenSpec.ofChange delayDoesSpec)

/-- ITS FALSE NEIGHBOUR: 'it returns false'. Refute it at one input. -/
def delayDoesWrong : ChangeSpec := { name := "delayDoes", fn := fun _ => fun
  | [d1, d2, d3] => { results := [.lit (.bool false)], args := [d1, d2, d3] }
  | _ => none }
def DelayDoesWrongFalsely : Prop := delayDoesRow.holds Try.pinned (OpenSpec.ofChange delayDoesWrong)

/-- 'escutcheonlaw21.UndoDoes': WHATEVER THE INPUT: true; the input reads as it did. -/
def undoDoesSpec : ChangeSpec := { name := "undoDoes", fn := fun _ => fun
  | [d] => { results := [.lit (.bool true)], args := [d] }
  | _ => none }
def undoDoesRow : OpenClaim := { program := "ytbhmplbckkipjaa", sum := "93291b41596638dda15333a47bbaa76d6c684324cc881316f990e5ee3e2efe12", func := "escutcheon/escutcheonlaw21.UndoDoes", spec := "undoDoes", unfollowed := true, recurses := true, plainKeys := false, apart := false }
def UndoDoesSaid : Prop := undoDoesRow.holds Try.pinned (OpenSpec.ofChange undoDoesSpec)

/-- ITS FALSE NEIGHBOUR: 'it returns false'. Refute it at one input. -/
def undoDoesWrong : ChangeSpec := { name := "undoDoes", fn := fun _ => fun
  | [d] => { results := [.lit (.bool false)], args := [d] }
  | _ => none }
def UndoDoesWrongFalsely : Prop := undoDoesRow.holds Try.pinned (OpenSpec.ofChange undoDoesWrong)

/-- 'escutcheonlaw41.DepsOf': WHATEVER THE INPUT: true; the input reads as it did. -/
def depsOfSpec : ChangeSpec := { name := "depsOf", fn := fun _ => fun
  | [d1, d2, d3, d4, d5, d6] => { results := [.lit (.bool true)], args := [d1, d2, d3, d4, d5, d6] }
  | _ => none }
def depsOfRow : OpenClaim := { program := "ytbhmplbckkipjaa", sum := "93291b41596638dda15333a47bbaa76d6c684324cc881316f990e5ee3e2efe12", func := "escutcheon/escutcheonlaw41.DepsOf", spec := "depsOf", unfollowed := true, recurses := true, plainKeys := false, apart := false }
def DepsOfSaid : Prop := depsOfRow.holds Try.pinned (OpenSpec.ofChange depsOfSpec)

/-- ITS FALSE NEIGHBOUR: 'it returns false'. Refute it at one input. -/
def depsOfWrong : ChangeSpec := { name := "depsOf", fn := fun _ => fun
  | [d1, d2, d3, d4, d5, d6] => { results := [.lit (.bool false)], args := [d1, d2, d3, d4, d5, d6] }
  | _ => none }
def DepsOfWrongFalsely : Prop := depsOfRow.holds Try.pinned (OpenSpec.ofChange depsOfWrong)

/- THE SECOND FORM. 'bulk': how many values and letters a reading holds, each counted each time it is reached (what is shared counts as often as it is met; a slice's spare places count too). A statement '..UptoSaid' is the law's where the arguments, and the package variables that the reading takes, are together of bulk at most 1048576: NARROWER than '..Said'. Prove '..Said' where nothing that the law and all that it calls make is longer than what came in: it says more and counts as full. Else prove '..UptoSaid'. A law counts once. -/
mutual
def uptoBulk {H : Type} : DataW H → Nat
  | .lit (.string bytes) => bytes.length + 1
  | .lit _ => 1
  | .nil => 1
  | .ptr d => uptoBulk d + 1
  | .slice elems spare => uptoBulkAll elems + uptoBulkAll spare + 1
  | .agg parts => uptoBulkAll parts + 1
  | .iface _ d => uptoBulk d + 1
  | .map entries => uptoBulkEntries entries + 1
  | .held _ => 1
def uptoBulkAll {H : Type} : List (DataW H) → Nat
  | [] => 0
  | d :: r => uptoBulk d + uptoBulkAll r
def uptoBulkEntries {H : Type} : List (Lit × DataW H) → Nat
  | [] => 0
  | x :: r => uptoBulkEntry x + uptoBulkEntries r
def uptoBulkEntry {H : Type} : Lit × DataW H → Nat
  | (.string bytes, d) => bytes.length + uptoBulk d + 1
  | (_, d) => uptoBulk d + 1
 end
def uptoSmall : (H : Type) → List (DataW H) → Bool := fun _ ds => decide (uptoBulkAll ds ≤ 1048576)
def OpenSpec.upto (s : _root_.Go.ChangeSpec) : _root_.Go.OpenSpec := { _root_.Go.OpenSpec.ofChange s with cond := some uptoSmall }

/-- 'escutcheonlaw26.ScriptBounds', WHERE WHAT IT READS IS OF BULK AT MOST 1048576: true; the input reads as it did. -/
def scriptBoundsUptoRow : OpenClaim := { program := "ytbhmplbckkipjaa", sum := "93291b41596638dda15333a47bbaa76d6c684324cc881316f990e5ee3e2efe12", func := "escutcheon/escutcheonlaw26.ScriptBounds", spec := "scriptBounds", plainKeys := false, apart := false, narrowed := true }
def ScriptBoundsUptoSaid : Prop := scriptBoundsUptoRow.holds Try.pinned (OpenSpec.upto scriptBoundsSpec)

/-- 'escutcheonlaw39.FootDoes', WHERE WHAT IT READS IS OF BULK AT MOST 1048576: true; the input reads as it did. -/
def footDoesUptoRow : OpenClaim := { program := "ytbhmplbckkipjaa", sum := "93291b41596638dda15333a47bbaa76d6c684324cc881316f990e5ee3e2efe12", func := "escutcheon/escutcheonlaw39.FootDoes", spec := "footDoes", unfollowed := true, recurses := true, plainKeys := false, apart := false, narrowed := true }
def FootDoesUptoSaid : Prop := footDoesUptoRow.holds Try.pinned (OpenSpec.upto footDoesSpec)

/-- 'escutcheonlaw39.FootSides', WHERE WHAT IT READS IS OF BULK AT MOST 1048576: true; the input reads as it did. -/
def footSidesUptoRow : OpenClaim := { program := "ytbhmplbckkipjaa", sum := "93291b41596638dda15333a47bbaa76d6c684324cc881316f990e5ee3e2efe12", func := "escutcheon/escutcheonlaw39.FootSides", spec := "footSides", unfollowed := true, recurses := true, plainKeys := false, apart := false, narrowed := true }
def FootSidesUptoSaid : Prop := footSidesUptoRow.holds Try.pinned (OpenSpec.upto footSidesSpec)

/-- 'escutcheonlaw26.ScriptTakes', WHERE WHAT IT READS IS OF BULK AT MOST 1048576: true; the input reads as it did. -/
def scriptTakesUptoRow : OpenClaim := { program := "ytbhmplbckkipjaa", sum := "93291b41596638dda15333a47bbaa76d6c684324cc881316f990e5ee3e2efe12", func := "escutcheon/escutcheonlaw26.ScriptTakes", spec := "scriptTakes", unfollowed := true, recurses := true, plainKeys := false, apart := false, narrowed := true }
def ScriptTakesUptoSaid : Prop := scriptTakesUptoRow.holds Try.pinned (OpenSpec.upto scriptTakesSpec)

/-- 'escutcheonlaw26.ScriptBack', WHERE WHAT IT READS IS OF BULK AT MOST 1048576: true; the input reads as it did. -/
def scriptBackUptoRow : OpenClaim := { program := "ytbhmplbckkipjaa", sum := "93291b41596638dda15333a47bbaa76d6c684324cc881316f990e5ee3e2efe12", func := "escutcheon/escutcheonlaw26.ScriptBack", spec := "scriptBack", plainKeys := false, apart := false, narrowed := true }
def ScriptBackUptoSaid : Prop := scriptBackUptoRow.holds Try.pinned (OpenSpec.upto scriptBackSpec)

/-- 'escutcheonlaw26.ScriptPuts', WHERE WHAT IT READS IS OF BULK AT MOST 1048576: true; the input reads as it did. -/
def scriptPutsUptoRow : OpenClaim := { program := "ytbhmplbckkipjaa", sum := "93291b41596638dda15333a47bbaa76d6c684324cc881316f990e5ee3e2efe12", func := "escutcheon/escutcheonlaw26.ScriptPuts", spec := "scriptPuts", unfollowed := true, recurses := true, plainKeys := false, apart := false, narrowed := true }
def ScriptPutsUptoSaid : Prop := scriptPutsUptoRow.holds Try.pinned (OpenSpec.upto scriptPutsSpec)

/-- 'escutcheonlaw42.DelayRises', WHERE WHAT IT READS IS OF BULK AT MOST 1048576: true; the input reads as it did. -/
def delayRisesUptoRow : OpenClaim := { program := "ytbhmplbckkipjaa", sum := "93291b41596638dda15333a47bbaa76d6c684324cc881316f990e5ee3e2efe12", func := "escutcheon/escutcheonlaw42.DelayRises", spec := "delayRises", recurses := true, plainKeys := false, apart := false, narrowed := true }
def DelayRisesUptoSaid : Prop := delayRisesUptoRow.holds Try.pinned (OpenSpec.upto delayRisesSpec)

/-- 'escutcheonlaw42.DelayMost', WHERE WHAT IT READS IS OF BULK AT MOST 1048576: true; the input reads as it did. -/
def delayMostUptoRow : OpenClaim := { program := "ytbhmplbckkipjaa", sum := "93291b41596638dda15333a47bbaa76d6c684324cc881316f990e5ee3e2efe12", func := "escutcheon/escutcheonlaw42.DelayMost", spec := "delayMost", unfollowed := true, recurses := true, plainKeys := false, apart := false, narrowed := true }
def DelayMostUptoSaid : Prop := delayMostUptoRow.holds Try.pinned (OpenSpec.upto delayMostSpec)

/-- 'escutcheonlaw42.DelayDoes', WHERE WHAT IT READS IS OF BULK AT MOST 1048576: true; the input reads as it did. -/
def delayDoesUptoRow : OpenClaim := { program := "ytbhmplbckkipjaa", sum := "93291b41596638dda15333a47bbaa76d6c684324cc881316f990e5ee3e2efe12", func := "escutcheon/escutcheonlaw42.DelayDoes", spec := "delayDoes", unfollowed := true, recurses := true, plainKeys := false, apart := false, narrowed := true }
def DelayDoesUptoSaid : Prop := delayDoesUptoRow.holds Try.pinned (OpenSpec.upto delayDoesSpec)

/-- 'escutcheonlaw21.UndoDoes', WHERE WHAT IT READS IS OF BULK AT MOST 1048576: true; the input reads as it did. -/
def undoDoesUptoRow : OpenClaim := { program := "ytbhmplbckkipjaa", sum := "93291b41596638dda15333a47bbaa76d6c684324cc881316f990e5ee3e2efe12", func := "escutcheon/escutcheonlaw21.UndoDoes", spec := "undoDoes", unfollowed := true, recurses := true, plainKeys := false, apart := false, narrowed := true }
def UndoDoesUptoSaid : Prop := undoDoesUptoRow.holds Try.pinned (OpenSpec.upto undoDoesSpec)

/-- 'escutcheonlaw41.DepsOf', WHERE WHAT IT READS IS OF BULK AT MOST 1048576: true; the input reads as it did. -/
def depsOfUptoRow : OpenClaim := { program := "ytbhmplbckkipjaa", sum := "93291b41596638dda15333a47bbaa76d6c684324cc881316f990e5ee3e2efe12", func := "escutcheon/escutcheonlaw41.DepsOf", spec := "depsOf", unfollowed := true, recurses := true, plainKeys := false, apart := false, narrowed := true }
def DepsOfUptoSaid : Prop := depsOfUptoRow.holds Try.pinned (OpenSpec.upto depsOfSpec)

end Rows
end Go.Proofs.Ytbhmplbckkipjaa
