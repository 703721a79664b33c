/-
  No cell of these rows narrows 'for every input' (looked for: loops, veiled, ifaces, maps, wideKeys, modest, calm, conditions, laid).
  DERIVED. THE GIVEN ROWS OF THIS SEAT. 12 by the template 'for every input the law returns true; each argument reads behind the call as it read before'; 0 by the template 'total and deterministic' (their statements: YtcagncomnjeinaaTotals.lean).
  GIVEN WITH THE SEED: the statements are not yours to turn. If you find one false, say at which input.
  Laid BY PROGRAM, IN A SANDBOX (cutbox-rows.mjs): the forced cells as the released guide's own fill.sh prints them over the translation 6845e6f1ae0ca5ea… (all of the seat's roots in one cut). By AI agents, Wed Nov 11 2026. No macro, syntax, notation, axiom, sorry.
-/
import Derived.Test.YtcagncomnjeinaaChecked
import GoSem.Claim
import GoSem.ClaimJoined
import GoSem.ClaimMapViews
import Derived.JoinedTies
import Derived.KernelRfl
namespace Go.Proofs.Ytcagncomnjeinaa
/- THE CELL 'sum', in the pinned program and in every row, IS THE sha256 OF THE DUMP (.gsa) THAT YtcagncomnjeinaaProg.lean LOADS. Nothing in Lean hashes anything: it is a label: what it is worth is what the hold of that sum in a sandbox is worth. -/
noncomputable def Try.pinned : Pinned := { name := "ytcagncomnjeinaa", sum := "6845e6f1ae0ca5ea488dfe8b06e4054eb260b13f81f7d7ff455e5efbe5264b73", checked := Try.checked }
namespace Rows
def none {H : Type} : Left H := { results := [], args := [] }

/-- 'escutcheonlaw16.VictimJudge': WHATEVER THE INPUT: true; the input reads as it did. -/
def victimJudgeSpec : ChangeSpec := { name := "victimJudge", fn := fun _ => fun
  | [d1, d2, d3] => { results := [.lit (.bool true)], args := [d1, d2, d3] }
  | _ => none }
def victimJudgeRow : OpenClaim := { program := "ytcagncomnjeinaa", sum := "6845e6f1ae0ca5ea488dfe8b06e4054eb260b13f81f7d7ff455e5efbe5264b73", func := "escutcheon/escutcheonlaw16.VictimJudge", spec := "victimJudge", plainKeys := false, apart := false }
def VictimJudgeSaid : Prop := victimJudgeRow.holds Try.pinned (OpenSpec.ofChange victimJudgeSpec)

/-- ITS FALSE NEIGHBOUR: 'it returns false'. Refute it at one input. -/
def victimJudgeWrong : ChangeSpec := { name := "victimJudge", fn := fun _ => fun
  | [d1, d2, d3] => { results := [.lit (.bool false)], args := [d1, d2, d3] }
  | _ => none }
def VictimJudgeWrongFalsely : Prop := victimJudgeRow.holds Try.pinned (OpenSpec.ofChange victimJudgeWrong)

/-- 'escutcheonlaw27.ClientWays': WHATEVER THE INPUT: true; the input reads as it did. -/
def clientWaysSpec : ChangeSpec := { name := "clientWays", fn := fun _ => fun
  | [d1, d2] => { results := [.lit (.bool true)], args := [d1, d2] }
  | _ => none }
def clientWaysRow : OpenClaim := { program := "ytcagncomnjeinaa", sum := "6845e6f1ae0ca5ea488dfe8b06e4054eb260b13f81f7d7ff455e5efbe5264b73", func := "escutcheon/escutcheonlaw27.ClientWays", spec := "clientWays", plainKeys := false, apart := false }
def ClientWaysSaid : Prop := clientWaysRow.holds Try.pinned (OpenSpec.ofChange clientWaysSpec)

/-- ITS FALSE NEIGHBOUR: 'it returns false'. Refute it at one input. -/
def clientWaysWrong : ChangeSpec := { name := "clientWays", fn := fun _ => fun
  | [d1, d2] => { results := [.lit (.bool false)], args := [d1, d2] }
  | _ => none }
def ClientWaysWrongFalsely : Prop := clientWaysRow.holds Try.pinned (OpenSpec.ofChange clientWaysWrong)

/-- 'escutcheonlaw27.ClientWords': WHATEVER THE INPUT: true; the input reads as it did. -/
def clientWordsSpec : ChangeSpec := { name := "clientWords", fn := fun _ => fun
  | [d1, d2] => { results := [.lit (.bool true)], args := [d1, d2] }
  | _ => none }
def clientWordsRow : OpenClaim := { program := "ytcagncomnjeinaa", sum := "6845e6f1ae0ca5ea488dfe8b06e4054eb260b13f81f7d7ff455e5efbe5264b73", func := "escutcheon/escutcheonlaw27.ClientWords", spec := "clientWords", plainKeys := false, apart := false }
def ClientWordsSaid : Prop := clientWordsRow.holds Try.pinned (OpenSpec.ofChange clientWordsSpec)

/-- ITS FALSE NEIGHBOUR: 'it returns false'. Refute it at one input. -/
def clientWordsWrong : ChangeSpec := { name := "clientWords", fn := fun _ => fun
  | [d1, d2] => { results := [.lit (.bool false)], args := [d1, d2] }
  | _ => none }
def ClientWordsWrongFalsely : Prop := clientWordsRow.holds Try.pinned (OpenSpec.ofChange clientWordsWrong)

/-- 'escutcheonlaw37.SpansOnce': WHATEVER THE INPUT: true; the input reads as it did. -/
def spansOnceSpec : ChangeSpec := { name := "spansOnce", fn := fun _ => fun
  | [d1, d2] => { results := [.lit (.bool true)], args := [d1, d2] }
  | _ => none }
def spansOnceRow : OpenClaim := { program := "ytcagncomnjeinaa", sum := "6845e6f1ae0ca5ea488dfe8b06e4054eb260b13f81f7d7ff455e5efbe5264b73", func := "escutcheon/escutcheonlaw37.SpansOnce", spec := "spansOnce", plainKeys := false, apart := false }
def SpansOnceSaid : Prop := spansOnceRow.holds Try.pinned (OpenSpec.ofChange spansOnceSpec)

/-- ITS FALSE NEIGHBOUR: 'it returns false'. Refute it at one input. -/
def spansOnceWrong : ChangeSpec := { name := "spansOnce", fn := fun _ => fun
  | [d1, d2] => { results := [.lit (.bool false)], args := [d1, d2] }
  | _ => none }
def SpansOnceWrongFalsely : Prop := spansOnceRow.holds Try.pinned (OpenSpec.ofChange spansOnceWrong)

/-- 'escutcheonlaw16.VictimDoes': WHATEVER THE INPUT: true; the input reads as it did. -/
def victimDoesSpec : ChangeSpec := { name := "victimDoes", fn := fun _ => fun
  | [d1, d2, d3, d4, d5, d6, d7] => { results := [.lit (.bool true)], args := [d1, d2, d3, d4, d5, d6, d7] }
  | _ => none }
def victimDoesRow : OpenClaim := { program := "ytcagncomnjeinaa", sum := "6845e6f1ae0ca5ea488dfe8b06e4054eb260b13f81f7d7ff455e5efbe5264b73", func := "escutcheon/escutcheonlaw16.VictimDoes", spec := "victimDoes", unfollowed := true, recurses := true, plainKeys := false, apart := false }
def VictimDoesSaid : Prop := victimDoesRow.holds Try.pinned (OpenSpec.ofChange victimDoesSpec)

/-- ITS FALSE NEIGHBOUR: 'it returns false'. Refute it at one input. -/
def victimDoesWrong : ChangeSpec := { name := "victimDoes", fn := fun _ => fun
  | [d1, d2, d3, d4, d5, d6, d7] => { results := [.lit (.bool false)], args := [d1, d2, d3, d4, d5, d6, d7] }
  | _ => none }
def VictimDoesWrongFalsely : Prop := victimDoesRow.holds Try.pinned (OpenSpec.ofChange victimDoesWrong)

/-- 'escutcheonlaw16.VictimOldest': WHATEVER THE INPUT: true; the input reads as it did. -/
def victimOldestSpec : ChangeSpec := { name := "victimOldest", fn := fun _ => fun
  | [d1, d2, d3, d4, d5] => { results := [.lit (.bool true)], args := [d1, d2, d3, d4, d5] }
  | _ => none }
def victimOldestRow : OpenClaim := { program := "ytcagncomnjeinaa", sum := "6845e6f1ae0ca5ea488dfe8b06e4054eb260b13f81f7d7ff455e5efbe5264b73", func := "escutcheon/escutcheonlaw16.VictimOldest", spec := "victimOldest", unfollowed := true, recurses := true, plainKeys := false, apart := false }
def VictimOldestSaid : Prop := victimOldestRow.holds Try.pinned (OpenSpec.ofChange victimOldestSpec)

/-- ITS FALSE NEIGHBOUR: 'it returns false'. Refute it at one input. -/
def victimOldestWrong : ChangeSpec := { name := "victimOldest", fn := fun _ => fun
  | [d1, d2, d3, d4, d5] => { results := [.lit (.bool false)], args := [d1, d2, d3, d4, d5] }
  | _ => none }
def VictimOldestWrongFalsely : Prop := victimOldestRow.holds Try.pinned (OpenSpec.ofChange victimOldestWrong)

/-- 'escutcheonlaw25.OpOnce': WHATEVER THE INPUT: true; the input reads as it did. -/
def opOnceSpec : ChangeSpec := { name := "opOnce", fn := fun _ => fun
  | [d1, d2] => { results := [.lit (.bool true)], args := [d1, d2] }
  | _ => none }
def opOnceRow : OpenClaim := { program := "ytcagncomnjeinaa", sum := "6845e6f1ae0ca5ea488dfe8b06e4054eb260b13f81f7d7ff455e5efbe5264b73", func := "escutcheon/escutcheonlaw25.OpOnce", spec := "opOnce", plainKeys := false, apart := false }
def OpOnceSaid : Prop := opOnceRow.holds Try.pinned (OpenSpec.ofChange opOnceSpec)

/-- ITS FALSE NEIGHBOUR: 'it returns false'. Refute it at one input. -/
def opOnceWrong : ChangeSpec := { name := "opOnce", fn := fun _ => fun
  | [d1, d2] => { results := [.lit (.bool false)], args := [d1, d2] }
  | _ => none }
def OpOnceWrongFalsely : Prop := opOnceRow.holds Try.pinned (OpenSpec.ofChange opOnceWrong)

/-- 'escutcheonlaw41.DepsSides': WHATEVER THE INPUT: true; the input reads as it did. -/
def depsSidesSpec : ChangeSpec := { name := "depsSides", fn := fun _ => fun
  | [d1, d2] => { results := [.lit (.bool true)], args := [d1, d2] }
  | _ => none }
def depsSidesRow : OpenClaim := { program := "ytcagncomnjeinaa", sum := "6845e6f1ae0ca5ea488dfe8b06e4054eb260b13f81f7d7ff455e5efbe5264b73", func := "escutcheon/escutcheonlaw41.DepsSides", spec := "depsSides", unfollowed := true, recurses := true, plainKeys := false, apart := false }
def DepsSidesSaid : Prop := depsSidesRow.holds Try.pinned (OpenSpec.ofChange depsSidesSpec)

/-- ITS FALSE NEIGHBOUR: 'it returns false'. Refute it at one input. -/
def depsSidesWrong : ChangeSpec := { name := "depsSides", fn := fun _ => fun
  | [d1, d2] => { results := [.lit (.bool false)], args := [d1, d2] }
  | _ => none }
def DepsSidesWrongFalsely : Prop := depsSidesRow.holds Try.pinned (OpenSpec.ofChange depsSidesWrong)

/-- 'escutcheonlaw27.ClientOps': WHATEVER THE INPUT: true; the input reads as it did. -/
def clientOpsSpec : ChangeSpec := { name := "clientOps", fn := fun _ => fun
  | [d1, d2, d3] => { results := [.lit (.bool true)], args := [d1, d2, d3] }
  | _ => none }
def clientOpsRow : OpenClaim := { program := "ytcagncomnjeinaa", sum := "6845e6f1ae0ca5ea488dfe8b06e4054eb260b13f81f7d7ff455e5efbe5264b73", func := "escutcheon/escutcheonlaw27.ClientOps", spec := "clientOps", plainKeys := false, apart := false }
def ClientOpsSaid : Prop := clientOpsRow.holds Try.pinned (OpenSpec.ofChange clientOpsSpec)

/-- ITS FALSE NEIGHBOUR: 'it returns false'. Refute it at one input. -/
def clientOpsWrong : ChangeSpec := { name := "clientOps", fn := fun _ => fun
  | [d1, d2, d3] => { results := [.lit (.bool false)], args := [d1, d2, d3] }
  | _ => none }
def ClientOpsWrongFalsely : Prop := clientOpsRow.holds Try.pinned (OpenSpec.ofChange clientOpsWrong)

/-- 'escutcheonlaw25.OpDoes': WHATEVER THE INPUT: true; the input reads as it did. -/
def opDoesSpec : ChangeSpec := { name := "opDoes", fn := fun _ => fun
  | [d1, d2, d3] => { results := [.lit (.bool true)], args := [d1, d2, d3] }
  | _ => none }
def opDoesRow : OpenClaim := { program := "ytcagncomnjeinaa", sum := "6845e6f1ae0ca5ea488dfe8b06e4054eb260b13f81f7d7ff455e5efbe5264b73", func := "escutcheon/escutcheonlaw25.OpDoes", spec := "opDoes", plainKeys := false, apart := false }
def OpDoesSaid : Prop := opDoesRow.holds Try.pinned (OpenSpec.ofChange opDoesSpec)

/-- ITS FALSE NEIGHBOUR: 'it returns false'. Refute it at one input. -/
def opDoesWrong : ChangeSpec := { name := "opDoes", fn := fun _ => fun
  | [d1, d2, d3] => { results := [.lit (.bool false)], args := [d1, d2, d3] }
  | _ => none }
def OpDoesWrongFalsely : Prop := opDoesRow.holds Try.pinned (OpenSpec.ofChange opDoesWrong)

/-- 'escutcheonlaw26.ScriptBounds': WHATEVER THE INPUT: true; the input reads as it did. -/
def scriptBoundsSpec : ChangeSpec := { name := "scriptBounds", fn := fun _ => fun
  | [d1, d2] => { results := [.lit (.bool true)], args := [d1, d2] }
  | _ => none }
def scriptBoundsRow : OpenClaim := { program := "ytcagncomnjeinaa", sum := "6845e6f1ae0ca5ea488dfe8b06e4054eb260b13f81f7d7ff455e5efbe5264b73", func := "escutcheon/escutcheonlaw26.ScriptBounds", spec := "scriptBounds", plainKeys := false, apart := false }
def ScriptBoundsSaid : Prop := scriptBoundsRow.holds Try.pinned (OpenSpec.ofChange scriptBoundsSpec)

/-- ITS FALSE NEIGHBOUR: 'it returns false'. Refute it at one input. -/
def scriptBoundsWrong : ChangeSpec := { name := "scriptBounds", fn := fun _ => fun
  | [d1, d2] => { results := [.lit (.bool false)], args := [d1, d2] }
  | _ => none }
def ScriptBoundsWrongFalsely : Prop := scriptBoundsRow.holds Try.pinned (OpenSpec.ofChange scriptBoundsWrong)

/-- 'escutcheonlaw39.FootDoes': WHATEVER THE INPUT: true; the input reads as it did. -/
def footDoesSpec : ChangeSpec := { name := "footDoes", fn := fun _ => fun
  | [d1, d2, d3, d4] => { results := [.lit (.bool true)], args := [d1, d2, d3, d4] }
  | _ => none }
def footDoesRow : OpenClaim := { program := "ytcagncomnjeinaa", sum := "6845e6f1ae0ca5ea488dfe8b06e4054eb260b13f81f7d7ff455e5efbe5264b73", func := "escutcheon/escutcheonlaw39.FootDoes", spec := "footDoes", unfollowed := true, recurses := true, plainKeys := false, apart := false }
def FootDoesSaid : Prop := footDoesRow.holds Try.pinned (OpenSpec.ofChange footDoesSpec)

/-- ITS FALSE NEIGHBOUR: 'it returns false'. Refute it at one input. -/
def footDoesWrong : ChangeSpec := { name := "footDoes", fn := fun _ => fun
  | [d1, d2, d3, d4] => { results := [.lit (.bool false)], args := [d1, d2, d3, d4] }
  | _ => none }
def FootDoesWrongFalsely : Prop := footDoesRow.holds Try.pinned (OpenSpec.ofChange footDoesWrong)

/- THE SECOND FORM. 'bulk': how many values and letters a reading holds, each counted each time it is reached (what is shared counts as often as it is met; a slice's spare places count too). A statement '..UptoSaid' is the law's where the arguments, and the package variables that the reading takes, are together of bulk at most 1048576: NARROWER than '..Said'. Prove '..Said' where nothing that the law and all that it calls make is longer than what came in: it says more and counts as full. Else prove '..UptoSaid'. A law counts once. -/
mutual
def uptoBulk {H : Type} : DataW H → Nat
  | .lit (.string bytes) => bytes.length + 1
  | .lit _ => 1
  | .nil => 1
  | .ptr d => uptoBulk d + 1
  | .slice elems spare => uptoBulkAll elems + uptoBulkAll spare + 1
  | .agg parts => uptoBulkAll parts + 1
  | .iface _ d => uptoBulk d + 1
  | .map entries => uptoBulkEntries entries + 1
  | .held _ => 1
def uptoBulkAll {H : Type} : List (DataW H) → Nat
  | [] => 0
  | d :: r => uptoBulk d + uptoBulkAll r
def uptoBulkEntries {H : Type} : List (Lit × DataW H) → Nat
  | [] => 0
  | x :: r => uptoBulkEntry x + uptoBulkEntries r
def uptoBulkEntry {H : Type} : Lit × DataW H → Nat
  | (.string bytes, d) => bytes.length + uptoBulk d + 1
  | (_, d) => uptoBulk d + 1
 end
def uptoSmall : (H : Type) → List (DataW H) → Bool := fun _ ds => decide (uptoBulkAll ds ≤ 1048576)
def OpenSpec.upto (s : _root_.Go.ChangeSpec) : _root_.Go.OpenSpec := { _root_.Go.OpenSpec.ofChange s with cond := some uptoSmall }

/-- 'escutcheonlaw16.VictimJudge', WHERE WHAT IT READS IS OF BULK AT MOST 1048576: true; the input reads as it did. -/
def victimJudgeUptoRow : OpenClaim := { program := "ytcagncomnjeinaa", sum := "6845e6f1ae0ca5ea488dfe8b06e4054eb260b13f81f7d7ff455e5efbe5264b73", func := "escutcheon/escutcheonlaw16.VictimJudge", spec := "victimJudge", plainKeys := false, apart := false, narrowed := true }
def VictimJudgeUptoSaid : Prop := victimJudgeUptoRow.holds Try.pinned (OpenSpec.upto victimJudgeSpec)

/-- 'escutcheonlaw27.ClientWays', WHERE WHAT IT READS IS OF BULK AT MOST 1048576: true; the input reads as it did. -/
def clientWaysUptoRow : OpenClaim := { program := "ytcagncomnjeinaa", sum := "6845e6f1ae0ca5ea488dfe8b06e4054eb260b13f81f7d7ff455e5efbe5264b73", func := "escutcheon/escutcheonlaw27.ClientWays", spec := "clientWays", plainKeys := false, apart := false, narrowed := true }
def ClientWaysUptoSaid : Prop := clientWaysUptoRow.holds Try.pinned (OpenSpec.upto clientWaysSpec)

/-- 'escutcheonlaw27.ClientWords', WHERE WHAT IT READS IS OF BULK AT MOST 1048576: true; the input reads as it did. -/
def clientWordsUptoRow : OpenClaim := { program := "ytcagncomnjeinaa", sum := "6845e6f1ae0ca5ea488dfe8b06e4054eb260b13f81f7d7ff455e5efbe5264b73", func := "escutcheon/escutcheonlaw27.ClientWords", spec := "clientWords", plainKeys := false, apart := false, narrowed := true }
def ClientWordsUptoSaid : Prop := clientWordsUptoRow.holds Try.pinned (OpenSpec.upto clientWordsSpec)

/-- 'escutcheonlaw37.SpansOnce', WHERE WHAT IT READS IS OF BULK AT MOST 1048576: true; the input reads as it did. -/
def spansOnceUptoRow : OpenClaim := { program := "ytcagncomnjeinaa", sum := "6845e6f1ae0ca5ea488dfe8b06e4054eb260b13f81f7d7ff455e5efbe5264b73", func := "escutcheon/escutcheonlaw37.SpansOnce", spec := "spansOnce", plainKeys := false, apart := false, narrowed := true }
def SpansOnceUptoSaid : Prop := spansOnceUptoRow.holds Try.pinned (OpenSpec.upto spansOnceSpec)

/-- 'escutcheonlaw16.VictimDoes', WHERE WHAT IT READS IS OF BULK AT MOST 1048576: true; the input reads as it did. -/
def victimDoesUptoRow : OpenClaim := { program := "ytcagncomnjeinaa", sum := "6845e6f1ae0ca5ea488dfe8b06e4054eb260b13f81f7d7ff455e5efbe5264b73", func := "escutcheon/escutcheonlaw16.VictimDoes", spec := "victimDoes", unfollowed := true, recurses := true, plainKeys := false, apart := false, narrowed := true }
def VictimDoesUptoSaid : Prop := victimDoesUptoRow.holds Try.pinned (OpenSpec.upto victimDoesSpec)

/-- 'escutcheonlaw16.VictimOldest', WHERE WHAT IT READS IS OF BULK AT MOST 1048576: true; the input reads as it did. -/
def victimOldestUptoRow : OpenClaim := { program := "ytcagncomnjeinaa", sum := "6845e6f1ae0ca5ea488dfe8b06e4054eb260b13f81f7d7ff455e5efbe5264b73", func := "escutcheon/escutcheonlaw16.VictimOldest", spec := "victimOldest", unfollowed := true, recurses := true, plainKeys := false, apart := false, narrowed := true }
def VictimOldestUptoSaid : Prop := victimOldestUptoRow.holds Try.pinned (OpenSpec.upto victimOldestSpec)

/-- 'escutcheonlaw25.OpOnce', WHERE WHAT IT READS IS OF BULK AT MOST 1048576: true; the input reads as it did. -/
def opOnceUptoRow : OpenClaim := { program := "ytcagncomnjeinaa", sum := "6845e6f1ae0ca5ea488dfe8b06e4054eb260b13f81f7d7ff455e5efbe5264b73", func := "escutcheon/escutcheonlaw25.OpOnce", spec := "opOnce", plainKeys := false, apart := false, narrowed := true }
def OpOnceUptoSaid : Prop := opOnceUptoRow.holds Try.pinned (OpenSpec.upto opOnceSpec)

/-- 'escutcheonlaw41.DepsSides', WHERE WHAT IT READS IS OF BULK AT MOST 1048576: true; the input reads as it did. -/
def depsSidesUptoRow : OpenClaim := { program := "ytcagncomnjeinaa", sum := "6845e6f1ae0ca5ea488dfe8b06e4054eb260b13f81f7d7ff455e5efbe5264b73", func := "escutcheon/escutcheonlaw41.DepsSides", spec := "depsSides", unfollowed := true, recurses := true, plainKeys := false, apart := false, narrowed := true }
def DepsSidesUptoSaid : Prop := depsSidesUptoRow.holds Try.pinned (OpenSpec.upto depsSidesSpec)

/-- 'escutcheonlaw27.ClientOps', WHERE WHAT IT READS IS OF BULK AT MOST 1048576: true; the input reads as it did. -/
def clientOpsUptoRow : OpenClaim := { program := "ytcagncomnjeinaa", sum := "6845e6f1ae0ca5ea488dfe8b06e4054eb260b13f81f7d7ff455e5efbe5264b73", func := "escutcheon/escutcheonlaw27.ClientOps", spec := "clientOps", plainKeys := false, apart := false, narrowed := true }
def ClientOpsUptoSaid : Prop := clientOpsUptoRow.holds Try.pinned (OpenSpec.upto clientOpsSpec)

/-- 'escutcheonlaw25.OpDoes', WHERE WHAT IT READS IS OF BULK AT MOST 1048576: true; the input reads as it did. -/
def opDoesUptoRow : OpenClaim := { program := "ytcagncomnjeinaa", sum := "6845e6f1ae0ca5ea488dfe8b06e4054eb260b13f81f7d7ff455e5efbe5264b73", func := "escutcheon/escutcheonlaw25.OpDoes", spec := "opDoes", plainKeys := false, apart := false, narrowed := true }
def OpDoesUptoSaid : Prop := opDoesUptoRow.holds Try.pinned (OpenSpec.upto opDoesSpec)

/-- 'escutcheonlaw26.ScriptBounds', WHERE WHAT IT READS IS OF BULK AT MOST 1048576: true; the input reads as it did. -/
def scriptBoundsUptoRow : OpenClaim := { program := "ytcagncomnjeinaa", sum := "6845e6f1ae0ca5ea488dfe8b06e4054eb260b13f81f7d7ff455e5efbe5264b73", func := "escutcheon/escutcheonlaw26.ScriptBounds", spec := "scriptBounds", plainKeys := false, apart := false, narrowed := true }
def ScriptBoundsUptoSaid : Prop := scriptBoundsUptoRow.holds Try.pinned (OpenSpec.upto scriptBoundsSpec)

/-- 'escutcheonlaw39.FootDoes', WHERE WHAT IT READS IS OF BULK AT MOST 1048576: true; the input reads as it did. -/
def footDoesUptoRow : OpenClaim := { program := "ytcagncomnjeinaa", sum := "6845e6f1ae0ca5ea488dfe8b06e4054eb260b13f81f7d7ff455e5efbe5264b73", func := "escutcheon/escutcheonlaw39.FootDoes", spec := "footDoes", unfollowed := true, recurses := true, plainKeys := false, apart := false, narrowed := true }
def FootDoesUptoSaid : Prop := footDoesUptoRow.holds Try.pinned (OpenSpec.upto footDoesSpec)

end Rows
end Go.Proofs.Ytcagncomnjeinaa
