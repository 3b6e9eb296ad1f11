/-
  No cell of these rows narrows 'for every input' (looked for: loops, veiled, ifaces, maps, wideKeys, modest, calm, conditions, laid).
  DERIVED. THE GIVEN ROWS OF THIS SEAT. 12 by the template 'for every input the law returns true; each argument reads behind the call as it read before'; 0 by the template 'total and deterministic' (their statements: YtcfmaicmlcmleaaTotals.lean).
  GIVEN WITH THE SEED: the statements are not yours to turn. If you find one false, say at which input.
  Laid BY PROGRAM, IN A SANDBOX (cutbox-rows.mjs): the forced cells as the released guide's own fill.sh prints them over the translation 8f77ddb67209f93d… (all of the seat's roots in one cut). By AI agents, Wed Nov 11 2026. No macro, syntax, notation, axiom, sorry.
-/
import Derived.Test.YtcfmaicmlcmleaaChecked
import GoSem.Claim
import GoSem.ClaimJoined
import GoSem.ClaimMapViews
import Derived.JoinedTies
import Derived.KernelRfl
namespace Go.Proofs.Ytcfmaicmlcmleaa
/- THE CELL 'sum', in the pinned program and in every row, IS THE sha256 OF THE DUMP (.gsa) THAT YtcfmaicmlcmleaaProg.lean LOADS. Nothing in Lean hashes anything: it is a label: what it is worth is what the hold of that sum in a sandbox is worth. -/
noncomputable def Try.pinned : Pinned := { name := "ytcfmaicmlcmleaa", sum := "8f77ddb67209f93dbd12d18c795632d98ef4844f8148a0d711bfc995388dfe32", checked := Try.checked }
namespace Rows
def none {H : Type} : Left H := { results := [], args := [] }

/-- 'laws.FnExactIsField': WHATEVER THE INPUT: true; the input reads as it did. -/
def fnExactIsFieldSpec : ChangeSpec := { name := "fnExactIsField", fn := fun _ => fun
  | [d] => { results := [.lit (.bool true)], args := [d] }
  | _ => none }
def fnExactIsFieldRow : OpenClaim := { program := "ytcfmaicmlcmleaa", sum := "8f77ddb67209f93dbd12d18c795632d98ef4844f8148a0d711bfc995388dfe32", func := "loop.example/g01182/laws.FnExactIsField", spec := "fnExactIsField", apart := false }
def FnExactIsFieldSaid : Prop := fnExactIsFieldRow.holds Try.pinned (OpenSpec.ofChange fnExactIsFieldSpec)

/-- ITS FALSE NEIGHBOUR: 'it returns false'. Refute it at one input. -/
def fnExactIsFieldWrong : ChangeSpec := { name := "fnExactIsField", fn := fun _ => fun
  | [d] => { results := [.lit (.bool false)], args := [d] }
  | _ => none }
def FnExactIsFieldWrongFalsely : Prop := fnExactIsFieldRow.holds Try.pinned (OpenSpec.ofChange fnExactIsFieldWrong)

/-- 'laws.FnExactTimesIn': WHATEVER THE INPUT: true; the input reads as it did. -/
def fnExactTimesInSpec : ChangeSpec := { name := "fnExactTimesIn", fn := fun _ => fun
  | [d1, d2, d3] => { results := [.lit (.bool true)], args := [d1, d2, d3] }
  | _ => none }
def fnExactTimesInRow : OpenClaim := { program := "ytcfmaicmlcmleaa", sum := "8f77ddb67209f93dbd12d18c795632d98ef4844f8148a0d711bfc995388dfe32", func := "loop.example/g01182/laws.FnExactTimesIn", spec := "fnExactTimesIn", apart := false }
def FnExactTimesInSaid : Prop := fnExactTimesInRow.holds Try.pinned (OpenSpec.ofChange fnExactTimesInSpec)

/-- ITS FALSE NEIGHBOUR: 'it returns false'. Refute it at one input. -/
def fnExactTimesInWrong : ChangeSpec := { name := "fnExactTimesIn", fn := fun _ => fun
  | [d1, d2, d3] => { results := [.lit (.bool false)], args := [d1, d2, d3] }
  | _ => none }
def FnExactTimesInWrongFalsely : Prop := fnExactTimesInRow.holds Try.pinned (OpenSpec.ofChange fnExactTimesInWrong)

/-- 'laws.FnExactPowerIn': WHATEVER THE INPUT: true; the input reads as it did. -/
def fnExactPowerInSpec : ChangeSpec := { name := "fnExactPowerIn", fn := fun _ => fun
  | [d1, d2, d3] => { results := [.lit (.bool true)], args := [d1, d2, d3] }
  | _ => none }
def fnExactPowerInRow : OpenClaim := { program := "ytcfmaicmlcmleaa", sum := "8f77ddb67209f93dbd12d18c795632d98ef4844f8148a0d711bfc995388dfe32", func := "loop.example/g01182/laws.FnExactPowerIn", spec := "fnExactPowerIn", apart := false }
def FnExactPowerInSaid : Prop := fnExactPowerInRow.holds Try.pinned (OpenSpec.ofChange fnExactPowerInSpec)

/-- ITS FALSE NEIGHBOUR: 'it returns false'. Refute it at one input. -/
def fnExactPowerInWrong : ChangeSpec := { name := "fnExactPowerIn", fn := fun _ => fun
  | [d1, d2, d3] => { results := [.lit (.bool false)], args := [d1, d2, d3] }
  | _ => none }
def FnExactPowerInWrongFalsely : Prop := fnExactPowerInRow.holds Try.pinned (OpenSpec.ofChange fnExactPowerInWrong)

/-- 'laws.FnExactInverseIn': WHATEVER THE INPUT: true; the input reads as it did. -/
def fnExactInverseInSpec : ChangeSpec := { name := "fnExactInverseIn", fn := fun _ => fun
  | [d1, d2] => { results := [.lit (.bool true)], args := [d1, d2] }
  | _ => none }
def fnExactInverseInRow : OpenClaim := { program := "ytcfmaicmlcmleaa", sum := "8f77ddb67209f93dbd12d18c795632d98ef4844f8148a0d711bfc995388dfe32", func := "loop.example/g01182/laws.FnExactInverseIn", spec := "fnExactInverseIn", apart := false }
def FnExactInverseInSaid : Prop := fnExactInverseInRow.holds Try.pinned (OpenSpec.ofChange fnExactInverseInSpec)

/-- ITS FALSE NEIGHBOUR: 'it returns false'. Refute it at one input. -/
def fnExactInverseInWrong : ChangeSpec := { name := "fnExactInverseIn", fn := fun _ => fun
  | [d1, d2] => { results := [.lit (.bool false)], args := [d1, d2] }
  | _ => none }
def FnExactInverseInWrongFalsely : Prop := fnExactInverseInRow.holds Try.pinned (OpenSpec.ofChange fnExactInverseInWrong)

/-- 'laws.FnExactTraceIn': WHATEVER THE INPUT: true; the input reads as it did. -/
def fnExactTraceInSpec : ChangeSpec := { name := "fnExactTraceIn", fn := fun _ => fun
  | [d1, d2] => { results := [.lit (.bool true)], args := [d1, d2] }
  | _ => none }
def fnExactTraceInRow : OpenClaim := { program := "ytcfmaicmlcmleaa", sum := "8f77ddb67209f93dbd12d18c795632d98ef4844f8148a0d711bfc995388dfe32", func := "loop.example/g01182/laws.FnExactTraceIn", spec := "fnExactTraceIn", apart := false }
def FnExactTraceInSaid : Prop := fnExactTraceInRow.holds Try.pinned (OpenSpec.ofChange fnExactTraceInSpec)

/-- ITS FALSE NEIGHBOUR: 'it returns false'. Refute it at one input. -/
def fnExactTraceInWrong : ChangeSpec := { name := "fnExactTraceIn", fn := fun _ => fun
  | [d1, d2] => { results := [.lit (.bool false)], args := [d1, d2] }
  | _ => none }
def FnExactTraceInWrongFalsely : Prop := fnExactTraceInRow.holds Try.pinned (OpenSpec.ofChange fnExactTraceInWrong)

/-- 'laws.FnExactRootIn': WHATEVER THE INPUT: true; the input reads as it did. -/
def fnExactRootInSpec : ChangeSpec := { name := "fnExactRootIn", fn := fun _ => fun
  | [d1, d2] => { results := [.lit (.bool true)], args := [d1, d2] }
  | _ => none }
def fnExactRootInRow : OpenClaim := { program := "ytcfmaicmlcmleaa", sum := "8f77ddb67209f93dbd12d18c795632d98ef4844f8148a0d711bfc995388dfe32", func := "loop.example/g01182/laws.FnExactRootIn", spec := "fnExactRootIn", apart := false }
def FnExactRootInSaid : Prop := fnExactRootInRow.holds Try.pinned (OpenSpec.ofChange fnExactRootInSpec)

/-- ITS FALSE NEIGHBOUR: 'it returns false'. Refute it at one input. -/
def fnExactRootInWrong : ChangeSpec := { name := "fnExactRootIn", fn := fun _ => fun
  | [d1, d2] => { results := [.lit (.bool false)], args := [d1, d2] }
  | _ => none }
def FnExactRootInWrongFalsely : Prop := fnExactRootInRow.holds Try.pinned (OpenSpec.ofChange fnExactRootInWrong)

/-- 'laws.FnExactQuadraticIn': WHATEVER THE INPUT: true; the input reads as it did. -/
def fnExactQuadraticInSpec : ChangeSpec := { name := "fnExactQuadraticIn", fn := fun _ => fun
  | [d1, d2] => { results := [.lit (.bool true)], args := [d1, d2] }
  | _ => none }
def fnExactQuadraticInRow : OpenClaim := { program := "ytcfmaicmlcmleaa", sum := "8f77ddb67209f93dbd12d18c795632d98ef4844f8148a0d711bfc995388dfe32", func := "loop.example/g01182/laws.FnExactQuadraticIn", spec := "fnExactQuadraticIn", apart := false }
def FnExactQuadraticInSaid : Prop := fnExactQuadraticInRow.holds Try.pinned (OpenSpec.ofChange fnExactQuadraticInSpec)

/-- ITS FALSE NEIGHBOUR: 'it returns false'. Refute it at one input. -/
def fnExactQuadraticInWrong : ChangeSpec := { name := "fnExactQuadraticIn", fn := fun _ => fun
  | [d1, d2] => { results := [.lit (.bool false)], args := [d1, d2] }
  | _ => none }
def FnExactQuadraticInWrongFalsely : Prop := fnExactQuadraticInRow.holds Try.pinned (OpenSpec.ofChange fnExactQuadraticInWrong)

/-- 'laws.FnExactLogarithmIn': WHATEVER THE INPUT: true; the input reads as it did. -/
def fnExactLogarithmInSpec : ChangeSpec := { name := "fnExactLogarithmIn", fn := fun _ => fun
  | [d1, d2, d3] => { results := [.lit (.bool true)], args := [d1, d2, d3] }
  | _ => none }
def fnExactLogarithmInRow : OpenClaim := { program := "ytcfmaicmlcmleaa", sum := "8f77ddb67209f93dbd12d18c795632d98ef4844f8148a0d711bfc995388dfe32", func := "loop.example/g01182/laws.FnExactLogarithmIn", spec := "fnExactLogarithmIn", apart := false }
def FnExactLogarithmInSaid : Prop := fnExactLogarithmInRow.holds Try.pinned (OpenSpec.ofChange fnExactLogarithmInSpec)

/-- ITS FALSE NEIGHBOUR: 'it returns false'. Refute it at one input. -/
def fnExactLogarithmInWrong : ChangeSpec := { name := "fnExactLogarithmIn", fn := fun _ => fun
  | [d1, d2, d3] => { results := [.lit (.bool false)], args := [d1, d2, d3] }
  | _ => none }
def FnExactLogarithmInWrongFalsely : Prop := fnExactLogarithmInRow.holds Try.pinned (OpenSpec.ofChange fnExactLogarithmInWrong)

/-- 'laws.FnExactOrderIn': WHATEVER THE INPUT: true; the input reads as it did. -/
def fnExactOrderInSpec : ChangeSpec := { name := "fnExactOrderIn", fn := fun _ => fun
  | [d1, d2] => { results := [.lit (.bool true)], args := [d1, d2] }
  | _ => none }
def fnExactOrderInRow : OpenClaim := { program := "ytcfmaicmlcmleaa", sum := "8f77ddb67209f93dbd12d18c795632d98ef4844f8148a0d711bfc995388dfe32", func := "loop.example/g01182/laws.FnExactOrderIn", spec := "fnExactOrderIn", apart := false }
def FnExactOrderInSaid : Prop := fnExactOrderInRow.holds Try.pinned (OpenSpec.ofChange fnExactOrderInSpec)

/-- ITS FALSE NEIGHBOUR: 'it returns false'. Refute it at one input. -/
def fnExactOrderInWrong : ChangeSpec := { name := "fnExactOrderIn", fn := fun _ => fun
  | [d1, d2] => { results := [.lit (.bool false)], args := [d1, d2] }
  | _ => none }
def FnExactOrderInWrongFalsely : Prop := fnExactOrderInRow.holds Try.pinned (OpenSpec.ofChange fnExactOrderInWrong)

/-- 'laws.FnExactLeastGenerator': WHATEVER THE INPUT: true; the input reads as it did. -/
def fnExactLeastGeneratorSpec : ChangeSpec := { name := "fnExactLeastGenerator", fn := fun _ => fun
  | [d] => { results := [.lit (.bool true)], args := [d] }
  | _ => none }
def fnExactLeastGeneratorRow : OpenClaim := { program := "ytcfmaicmlcmleaa", sum := "8f77ddb67209f93dbd12d18c795632d98ef4844f8148a0d711bfc995388dfe32", func := "loop.example/g01182/laws.FnExactLeastGenerator", spec := "fnExactLeastGenerator", apart := false }
def FnExactLeastGeneratorSaid : Prop := fnExactLeastGeneratorRow.holds Try.pinned (OpenSpec.ofChange fnExactLeastGeneratorSpec)

/-- ITS FALSE NEIGHBOUR: 'it returns false'. Refute it at one input. -/
def fnExactLeastGeneratorWrong : ChangeSpec := { name := "fnExactLeastGenerator", fn := fun _ => fun
  | [d] => { results := [.lit (.bool false)], args := [d] }
  | _ => none }
def FnExactLeastGeneratorWrongFalsely : Prop := fnExactLeastGeneratorRow.holds Try.pinned (OpenSpec.ofChange fnExactLeastGeneratorWrong)

/-- 'laws.FnExactAllFields': WHATEVER THE INPUT: true; the input reads as it did. -/
def fnExactAllFieldsSpec : ChangeSpec := { name := "fnExactAllFields", fn := fun _ => fun
  | [] => { results := [.lit (.bool true)], args := [] }
  | _ => none }
def fnExactAllFieldsRow : OpenClaim := { program := "ytcfmaicmlcmleaa", sum := "8f77ddb67209f93dbd12d18c795632d98ef4844f8148a0d711bfc995388dfe32", func := "loop.example/g01182/laws.FnExactAllFields", spec := "fnExactAllFields", apart := false }
def FnExactAllFieldsSaid : Prop := fnExactAllFieldsRow.holds Try.pinned (OpenSpec.ofChange fnExactAllFieldsSpec)

/-- ITS FALSE NEIGHBOUR: 'it returns false'. Refute it at one input. -/
def fnExactAllFieldsWrong : ChangeSpec := { name := "fnExactAllFields", fn := fun _ => fun
  | [] => { results := [.lit (.bool false)], args := [] }
  | _ => none }
def FnExactAllFieldsWrongFalsely : Prop := fnExactAllFieldsRow.holds Try.pinned (OpenSpec.ofChange fnExactAllFieldsWrong)

/-- 'laws.FnExactPowerBox': WHATEVER THE INPUT: true; the input reads as it did. -/
def fnExactPowerBoxSpec : ChangeSpec := { name := "fnExactPowerBox", fn := fun _ => fun
  | [d1, d2] => { results := [.lit (.bool true)], args := [d1, d2] }
  | _ => none }
def fnExactPowerBoxRow : OpenClaim := { program := "ytcfmaicmlcmleaa", sum := "8f77ddb67209f93dbd12d18c795632d98ef4844f8148a0d711bfc995388dfe32", func := "loop.example/g01182/laws.FnExactPowerBox", spec := "fnExactPowerBox", apart := false }
def FnExactPowerBoxSaid : Prop := fnExactPowerBoxRow.holds Try.pinned (OpenSpec.ofChange fnExactPowerBoxSpec)

/-- ITS FALSE NEIGHBOUR: 'it returns false'. Refute it at one input. -/
def fnExactPowerBoxWrong : ChangeSpec := { name := "fnExactPowerBox", fn := fun _ => fun
  | [d1, d2] => { results := [.lit (.bool false)], args := [d1, d2] }
  | _ => none }
def FnExactPowerBoxWrongFalsely : Prop := fnExactPowerBoxRow.holds Try.pinned (OpenSpec.ofChange fnExactPowerBoxWrong)

/- THE SECOND FORM. 'bulk': how many values and letters a reading holds, each counted each time it is reached (what is shared counts as often as it is met; a slice's spare places count too). A statement '..UptoSaid' is the law's where the arguments, and the package variables that the reading takes, are together of bulk at most 1048576: NARROWER than '..Said'. Prove '..Said' where nothing that the law and all that it calls make is longer than what came in: it says more and counts as full. Else prove '..UptoSaid'. A law counts once. -/
mutual
def uptoBulk {H : Type} : DataW H → Nat
  | .lit (.string bytes) => bytes.length + 1
  | .lit _ => 1
  | .nil => 1
  | .ptr d => uptoBulk d + 1
  | .slice elems spare => uptoBulkAll elems + uptoBulkAll spare + 1
  | .agg parts => uptoBulkAll parts + 1
  | .iface _ d => uptoBulk d + 1
  | .map entries => uptoBulkEntries entries + 1
  | .held _ => 1
def uptoBulkAll {H : Type} : List (DataW H) → Nat
  | [] => 0
  | d :: r => uptoBulk d + uptoBulkAll r
def uptoBulkEntries {H : Type} : List (Lit × DataW H) → Nat
  | [] => 0
  | x :: r => uptoBulkEntry x + uptoBulkEntries r
def uptoBulkEntry {H : Type} : Lit × DataW H → Nat
  | (.string bytes, d) => bytes.length + uptoBulk d + 1
  | (_, d) => uptoBulk d + 1
 end
def uptoSmall : (H : Type) → List (DataW H) → Bool := fun _ ds => decide (uptoBulkAll ds ≤ 1048576)
def OpenSpec.upto (s : _root_.Go.ChangeSpec) : _root_.Go.OpenSpec := { _root_.Go.OpenSpec.ofChange s with cond := some uptoSmall }

/-- 'laws.FnExactIsField', WHERE WHAT IT READS IS OF BULK AT MOST 1048576: true; the input reads as it did. -/
def fnExactIsFieldUptoRow : OpenClaim := { program := "ytcfmaicmlcmleaa", sum := "8f77ddb67209f93dbd12d18c795632d98ef4844f8148a0d711bfc995388dfe32", func := "loop.example/g01182/laws.FnExactIsField", spec := "fnExactIsField", apart := false, narrowed := true }
def FnExactIsFieldUptoSaid : Prop := fnExactIsFieldUptoRow.holds Try.pinned (OpenSpec.upto fnExactIsFieldSpec)

/-- 'laws.FnExactTimesIn', WHERE WHAT IT READS IS OF BULK AT MOST 1048576: true; the input reads as it did. -/
def fnExactTimesInUptoRow : OpenClaim := { program := "ytcfmaicmlcmleaa", sum := "8f77ddb67209f93dbd12d18c795632d98ef4844f8148a0d711bfc995388dfe32", func := "loop.example/g01182/laws.FnExactTimesIn", spec := "fnExactTimesIn", apart := false, narrowed := true }
def FnExactTimesInUptoSaid : Prop := fnExactTimesInUptoRow.holds Try.pinned (OpenSpec.upto fnExactTimesInSpec)

/-- 'laws.FnExactPowerIn', WHERE WHAT IT READS IS OF BULK AT MOST 1048576: true; the input reads as it did. -/
def fnExactPowerInUptoRow : OpenClaim := { program := "ytcfmaicmlcmleaa", sum := "8f77ddb67209f93dbd12d18c795632d98ef4844f8148a0d711bfc995388dfe32", func := "loop.example/g01182/laws.FnExactPowerIn", spec := "fnExactPowerIn", apart := false, narrowed := true }
def FnExactPowerInUptoSaid : Prop := fnExactPowerInUptoRow.holds Try.pinned (OpenSpec.upto fnExactPowerInSpec)

/-- 'laws.FnExactInverseIn', WHERE WHAT IT READS IS OF BULK AT MOST 1048576: true; the input reads as it did. -/
def fnExactInverseInUptoRow : OpenClaim := { program := "ytcfmaicmlcmleaa", sum := "8f77ddb67209f93dbd12d18c795632d98ef4844f8148a0d711bfc995388dfe32", func := "loop.example/g01182/laws.FnExactInverseIn", spec := "fnExactInverseIn", apart := false, narrowed := true }
def FnExactInverseInUptoSaid : Prop := fnExactInverseInUptoRow.holds Try.pinned (OpenSpec.upto fnExactInverseInSpec)

/-- 'laws.FnExactTraceIn', WHERE WHAT IT READS IS OF BULK AT MOST 1048576: true; the input reads as it did. -/
def fnExactTraceInUptoRow : OpenClaim := { program := "ytcfmaicmlcmleaa", sum := "8f77ddb67209f93dbd12d18c795632d98ef4844f8148a0d711bfc995388dfe32", func := "loop.example/g01182/laws.FnExactTraceIn", spec := "fnExactTraceIn", apart := false, narrowed := true }
def FnExactTraceInUptoSaid : Prop := fnExactTraceInUptoRow.holds Try.pinned (OpenSpec.upto fnExactTraceInSpec)

/-- 'laws.FnExactRootIn', WHERE WHAT IT READS IS OF BULK AT MOST 1048576: true; the input reads as it did. -/
def fnExactRootInUptoRow : OpenClaim := { program := "ytcfmaicmlcmleaa", sum := "8f77ddb67209f93dbd12d18c795632d98ef4844f8148a0d711bfc995388dfe32", func := "loop.example/g01182/laws.FnExactRootIn", spec := "fnExactRootIn", apart := false, narrowed := true }
def FnExactRootInUptoSaid : Prop := fnExactRootInUptoRow.holds Try.pinned (OpenSpec.upto fnExactRootInSpec)

/-- 'laws.FnExactQuadraticIn', WHERE WHAT IT READS IS OF BULK AT MOST 1048576: true; the input reads as it did. -/
def fnExactQuadraticInUptoRow : OpenClaim := { program := "ytcfmaicmlcmleaa", sum := "8f77ddb67209f93dbd12d18c795632d98ef4844f8148a0d711bfc995388dfe32", func := "loop.example/g01182/laws.FnExactQuadraticIn", spec := "fnExactQuadraticIn", apart := false, narrowed := true }
def FnExactQuadraticInUptoSaid : Prop := fnExactQuadraticInUptoRow.holds Try.pinned (OpenSpec.upto fnExactQuadraticInSpec)

/-- 'laws.FnExactLogarithmIn', WHERE WHAT IT READS IS OF BULK AT MOST 1048576: true; the input reads as it did. -/
def fnExactLogarithmInUptoRow : OpenClaim := { program := "ytcfmaicmlcmleaa", sum := "8f77ddb67209f93dbd12d18c795632d98ef4844f8148a0d711bfc995388dfe32", func := "loop.example/g01182/laws.FnExactLogarithmIn", spec := "fnExactLogarithmIn", apart := false, narrowed := true }
def FnExactLogarithmInUptoSaid : Prop := fnExactLogarithmInUptoRow.holds Try.pinned (OpenSpec.upto fnExactLogarithmInSpec)

/-- 'laws.FnExactOrderIn', WHERE WHAT IT READS IS OF BULK AT MOST 1048576: true; the input reads as it did. -/
def fnExactOrderInUptoRow : OpenClaim := { program := "ytcfmaicmlcmleaa", sum := "8f77ddb67209f93dbd12d18c795632d98ef4844f8148a0d711bfc995388dfe32", func := "loop.example/g01182/laws.FnExactOrderIn", spec := "fnExactOrderIn", apart := false, narrowed := true }
def FnExactOrderInUptoSaid : Prop := fnExactOrderInUptoRow.holds Try.pinned (OpenSpec.upto fnExactOrderInSpec)

/-- 'laws.FnExactLeastGenerator', WHERE WHAT IT READS IS OF BULK AT MOST 1048576: true; the input reads as it did. -/
def fnExactLeastGeneratorUptoRow : OpenClaim := { program := "ytcfmaicmlcmleaa", sum := "8f77ddb67209f93dbd12d18c795632d98ef4844f8148a0d711bfc995388dfe32", func := "loop.example/g01182/laws.FnExactLeastGenerator", spec := "fnExactLeastGenerator", apart := false, narrowed := true }
def FnExactLeastGeneratorUptoSaid : Prop := fnExactLeastGeneratorUptoRow.holds Try.pinned (OpenSpec.upto fnExactLeastGeneratorSpec)

/-- 'laws.FnExactAllFields', WHERE WHAT IT READS IS OF BULK AT MOST 1048576: true; the input reads as it did. -/
def fnExactAllFieldsUptoRow : OpenClaim := { program := "ytcfmaicmlcmleaa", sum := "8f77ddb67209f93dbd12d18c795632d98ef4844f8148a0d711bfc995388dfe32", func := "loop.example/g01182/laws.FnExactAllFields", spec := "fnExactAllFields", apart := false, narrowed := true }
def FnExactAllFieldsUptoSaid : Prop := fnExactAllFieldsUptoRow.holds Try.pinned (OpenSpec.upto fnExactAllFieldsSpec)

/-- 'laws.FnExactPowerBox', WHERE WHAT IT READS IS OF BULK AT MOST 1048576: true; the input reads as it did. -/
def fnExactPowerBoxUptoRow : OpenClaim := { program := "ytcfmaicmlcmleaa", sum := "8f77ddb67209f93dbd12d18c795632d98ef4844f8148a0d711bfc995388dfe32", func := "loop.example/g01182/laws.FnExactPowerBox", spec := "fnExactPowerBox", apart := false, narrowed := true }
def FnExactPowerBoxUptoSaid : Prop := fnExactPowerBoxUptoRow.holds Try.pinned (OpenSpec.upto fnExactPowerBoxSpec)

end Rows
end Go.Proofs.Ytcfmaicmlcmleaa
