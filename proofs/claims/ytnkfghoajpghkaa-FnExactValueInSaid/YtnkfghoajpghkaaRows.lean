/-
  No cell of these rows narrows 'for every input' (looked for: loops, veiled, ifaces, maps, wideKeys, modest, calm, conditions, laid).
  DERIVED. THE GIVEN ROWS OF THIS SEAT. 9 by the template 'for every input the law returns true; each argument reads behind the call as it read before'; 0 by the template 'total and deterministic' (their statements: YtnkfghoajpghkaaTotals.lean).
  GIVEN WITH THE SEED: the statements are not yours to turn. If you find one false, say at which input.
  Laid BY PROGRAM, IN A SANDBOX (cutbox-rows.mjs): the forced cells as the released guide's own fill.sh prints them over the translation 3b5dcc83fa3b8ade… (all of the seat's roots in one cut). By AI agents, Wed Nov 11 2026. No macro, syntax, notation, axiom, sorry.
-/
import Derived.Test.YtnkfghoajpghkaaChecked
import GoSem.Claim
import GoSem.ClaimJoined
import GoSem.ClaimMapViews
import Derived.JoinedTies
import Derived.KernelRfl
namespace Go.Proofs.Ytnkfghoajpghkaa
/- THE CELL 'sum', in the pinned program and in every row, IS THE sha256 OF THE DUMP (.gsa) THAT YtnkfghoajpghkaaProg.lean LOADS. Nothing in Lean hashes anything: it is a label: what it is worth is what the hold of that sum in a sandbox is worth. -/
noncomputable def Try.pinned : Pinned := { name := "ytnkfghoajpghkaa", sum := "3b5dcc83fa3b8adefa706637bfc2cea1a2e9e01376adcdd67ae8b5eccb444e78", checked := Try.checked }
namespace Rows
def none {H : Type} : Left H := { results := [], args := [] }

/-- 'laws.FnExactValueIn': WHATEVER THE INPUT: true; the input reads as it did. -/
def fnExactValueInSpec : ChangeSpec := { name := "fnExactValueIn", fn := fun _ => fun
  | [d1, d2, d3] => { results := [.lit (.bool true)], args := [d1, d2, d3] }
  | _ => none }
def fnExactValueInRow : OpenClaim := { program := "ytnkfghoajpghkaa", sum := "3b5dcc83fa3b8adefa706637bfc2cea1a2e9e01376adcdd67ae8b5eccb444e78", func := "loop.example/g01182/laws.FnExactValueIn", spec := "fnExactValueIn", unfollowed := true, recurses := true, apart := false }
def FnExactValueInSaid : Prop := fnExactValueInRow.holds Try.pinned (OpenSpec.ofChange fnExactValueInSpec)

/-- ITS FALSE NEIGHBOUR: 'it returns false'. Refute it at one input. -/
def fnExactValueInWrong : ChangeSpec := { name := "fnExactValueIn", fn := fun _ => fun
  | [d1, d2, d3] => { results := [.lit (.bool false)], args := [d1, d2, d3] }
  | _ => none }
def FnExactValueInWrongFalsely : Prop := fnExactValueInRow.holds Try.pinned (OpenSpec.ofChange fnExactValueInWrong)

/-- 'laws.FnExactTimesMatrix': WHATEVER THE INPUT: true; the input reads as it did. -/
def fnExactTimesMatrixSpec : ChangeSpec := { name := "fnExactTimesMatrix", fn := fun _ => fun
  | [d1, d2, d3] => { results := [.lit (.bool true)], args := [d1, d2, d3] }
  | _ => none }
def fnExactTimesMatrixRow : OpenClaim := { program := "ytnkfghoajpghkaa", sum := "3b5dcc83fa3b8adefa706637bfc2cea1a2e9e01376adcdd67ae8b5eccb444e78", func := "loop.example/g01182/laws.FnExactTimesMatrix", spec := "fnExactTimesMatrix", apart := false }
def FnExactTimesMatrixSaid : Prop := fnExactTimesMatrixRow.holds Try.pinned (OpenSpec.ofChange fnExactTimesMatrixSpec)

/-- ITS FALSE NEIGHBOUR: 'it returns false'. Refute it at one input. -/
def fnExactTimesMatrixWrong : ChangeSpec := { name := "fnExactTimesMatrix", fn := fun _ => fun
  | [d1, d2, d3] => { results := [.lit (.bool false)], args := [d1, d2, d3] }
  | _ => none }
def FnExactTimesMatrixWrongFalsely : Prop := fnExactTimesMatrixRow.holds Try.pinned (OpenSpec.ofChange fnExactTimesMatrixWrong)

/-- 'laws.FnExactBitsOfMatrix': WHATEVER THE INPUT: true; the input reads as it did. -/
def fnExactBitsOfMatrixSpec : ChangeSpec := { name := "fnExactBitsOfMatrix", fn := fun _ => fun
  | [d1, d2] => { results := [.lit (.bool true)], args := [d1, d2] }
  | _ => none }
def fnExactBitsOfMatrixRow : OpenClaim := { program := "ytnkfghoajpghkaa", sum := "3b5dcc83fa3b8adefa706637bfc2cea1a2e9e01376adcdd67ae8b5eccb444e78", func := "loop.example/g01182/laws.FnExactBitsOfMatrix", spec := "fnExactBitsOfMatrix", apart := false }
def FnExactBitsOfMatrixSaid : Prop := fnExactBitsOfMatrixRow.holds Try.pinned (OpenSpec.ofChange fnExactBitsOfMatrixSpec)

/-- ITS FALSE NEIGHBOUR: 'it returns false'. Refute it at one input. -/
def fnExactBitsOfMatrixWrong : ChangeSpec := { name := "fnExactBitsOfMatrix", fn := fun _ => fun
  | [d1, d2] => { results := [.lit (.bool false)], args := [d1, d2] }
  | _ => none }
def FnExactBitsOfMatrixWrongFalsely : Prop := fnExactBitsOfMatrixRow.holds Try.pinned (OpenSpec.ofChange fnExactBitsOfMatrixWrong)

/-- 'laws.FnExactRankOfBits': WHATEVER THE INPUT: true; the input reads as it did. -/
def fnExactRankOfBitsSpec : ChangeSpec := { name := "fnExactRankOfBits", fn := fun _ => fun
  | [d] => { results := [.lit (.bool true)], args := [d] }
  | _ => none }
def fnExactRankOfBitsRow : OpenClaim := { program := "ytnkfghoajpghkaa", sum := "3b5dcc83fa3b8adefa706637bfc2cea1a2e9e01376adcdd67ae8b5eccb444e78", func := "loop.example/g01182/laws.FnExactRankOfBits", spec := "fnExactRankOfBits", unfollowed := true, recurses := true, apart := false }
def FnExactRankOfBitsSaid : Prop := fnExactRankOfBitsRow.holds Try.pinned (OpenSpec.ofChange fnExactRankOfBitsSpec)

/-- ITS FALSE NEIGHBOUR: 'it returns false'. Refute it at one input. -/
def fnExactRankOfBitsWrong : ChangeSpec := { name := "fnExactRankOfBits", fn := fun _ => fun
  | [d] => { results := [.lit (.bool false)], args := [d] }
  | _ => none }
def FnExactRankOfBitsWrongFalsely : Prop := fnExactRankOfBitsRow.holds Try.pinned (OpenSpec.ofChange fnExactRankOfBitsWrong)

/-- 'laws.FnExactBytesOf': WHATEVER THE INPUT: true; the input reads as it did. -/
def fnExactBytesOfSpec : ChangeSpec := { name := "fnExactBytesOf", fn := fun _ => fun
  | [d] => { results := [.lit (.bool true)], args := [d] }
  | _ => none }
def fnExactBytesOfRow : OpenClaim := { program := "ytnkfghoajpghkaa", sum := "3b5dcc83fa3b8adefa706637bfc2cea1a2e9e01376adcdd67ae8b5eccb444e78", func := "loop.example/g01182/laws.FnExactBytesOf", spec := "fnExactBytesOf", apart := false }
def FnExactBytesOfSaid : Prop := fnExactBytesOfRow.holds Try.pinned (OpenSpec.ofChange fnExactBytesOfSpec)

/-- ITS FALSE NEIGHBOUR: 'it returns false'. Refute it at one input. -/
def fnExactBytesOfWrong : ChangeSpec := { name := "fnExactBytesOf", fn := fun _ => fun
  | [d] => { results := [.lit (.bool false)], args := [d] }
  | _ => none }
def FnExactBytesOfWrongFalsely : Prop := fnExactBytesOfRow.holds Try.pinned (OpenSpec.ofChange fnExactBytesOfWrong)

/-- 'laws.FnExactBlocksOf': WHATEVER THE INPUT: true; the input reads as it did. -/
def fnExactBlocksOfSpec : ChangeSpec := { name := "fnExactBlocksOf", fn := fun _ => fun
  | [d] => { results := [.lit (.bool true)], args := [d] }
  | _ => none }
def fnExactBlocksOfRow : OpenClaim := { program := "ytnkfghoajpghkaa", sum := "3b5dcc83fa3b8adefa706637bfc2cea1a2e9e01376adcdd67ae8b5eccb444e78", func := "loop.example/g01182/laws.FnExactBlocksOf", spec := "fnExactBlocksOf", apart := false }
def FnExactBlocksOfSaid : Prop := fnExactBlocksOfRow.holds Try.pinned (OpenSpec.ofChange fnExactBlocksOfSpec)

/-- ITS FALSE NEIGHBOUR: 'it returns false'. Refute it at one input. -/
def fnExactBlocksOfWrong : ChangeSpec := { name := "fnExactBlocksOf", fn := fun _ => fun
  | [d] => { results := [.lit (.bool false)], args := [d] }
  | _ => none }
def FnExactBlocksOfWrongFalsely : Prop := fnExactBlocksOfRow.holds Try.pinned (OpenSpec.ofChange fnExactBlocksOfWrong)

/-- 'laws.FnExactDataOfBlocks': WHATEVER THE INPUT: true; the input reads as it did. -/
def fnExactDataOfBlocksSpec : ChangeSpec := { name := "fnExactDataOfBlocks", fn := fun _ => fun
  | [d] => { results := [.lit (.bool true)], args := [d] }
  | _ => none }
def fnExactDataOfBlocksRow : OpenClaim := { program := "ytnkfghoajpghkaa", sum := "3b5dcc83fa3b8adefa706637bfc2cea1a2e9e01376adcdd67ae8b5eccb444e78", func := "loop.example/g01182/laws.FnExactDataOfBlocks", spec := "fnExactDataOfBlocks", apart := false }
def FnExactDataOfBlocksSaid : Prop := fnExactDataOfBlocksRow.holds Try.pinned (OpenSpec.ofChange fnExactDataOfBlocksSpec)

/-- ITS FALSE NEIGHBOUR: 'it returns false'. Refute it at one input. -/
def fnExactDataOfBlocksWrong : ChangeSpec := { name := "fnExactDataOfBlocks", fn := fun _ => fun
  | [d] => { results := [.lit (.bool false)], args := [d] }
  | _ => none }
def FnExactDataOfBlocksWrongFalsely : Prop := fnExactDataOfBlocksRow.holds Try.pinned (OpenSpec.ofChange fnExactDataOfBlocksWrong)

/-- 'laws.FnExactMatrixText': WHATEVER THE INPUT: true; the input reads as it did. -/
def fnExactMatrixTextSpec : ChangeSpec := { name := "fnExactMatrixText", fn := fun _ => fun
  | [d] => { results := [.lit (.bool true)], args := [d] }
  | _ => none }
def fnExactMatrixTextRow : OpenClaim := { program := "ytnkfghoajpghkaa", sum := "3b5dcc83fa3b8adefa706637bfc2cea1a2e9e01376adcdd67ae8b5eccb444e78", func := "loop.example/g01182/laws.FnExactMatrixText", spec := "fnExactMatrixText", inPlace := ["internal/abi.NoEscape", "internal/bytealg.MakeNoZero"], apart := false }
def FnExactMatrixTextSaid : Prop := fnExactMatrixTextRow.holds Try.pinned (OpenSpec.ofChange fnExactMatrixTextSpec)

/-- ITS FALSE NEIGHBOUR: 'it returns false'. Refute it at one input. -/
def fnExactMatrixTextWrong : ChangeSpec := { name := "fnExactMatrixText", fn := fun _ => fun
  | [d] => { results := [.lit (.bool false)], args := [d] }
  | _ => none }
def FnExactMatrixTextWrongFalsely : Prop := fnExactMatrixTextRow.holds Try.pinned (OpenSpec.ofChange fnExactMatrixTextWrong)

/-- 'laws.FnExactCyclesOfPlaces': WHATEVER THE INPUT: true; the input reads as it did. -/
def fnExactCyclesOfPlacesSpec : ChangeSpec := { name := "fnExactCyclesOfPlaces", fn := fun _ => fun
  | [d] => { results := [.lit (.bool true)], args := [d] }
  | _ => none }
def fnExactCyclesOfPlacesRow : OpenClaim := { program := "ytnkfghoajpghkaa", sum := "3b5dcc83fa3b8adefa706637bfc2cea1a2e9e01376adcdd67ae8b5eccb444e78", func := "loop.example/g01182/laws.FnExactCyclesOfPlaces", spec := "fnExactCyclesOfPlaces", inPlace := ["internal/bytealg.IndexByte"], apart := false }
def FnExactCyclesOfPlacesSaid : Prop := fnExactCyclesOfPlacesRow.holds Try.pinned (OpenSpec.ofChange fnExactCyclesOfPlacesSpec)

/-- ITS FALSE NEIGHBOUR: 'it returns false'. Refute it at one input. -/
def fnExactCyclesOfPlacesWrong : ChangeSpec := { name := "fnExactCyclesOfPlaces", fn := fun _ => fun
  | [d] => { results := [.lit (.bool false)], args := [d] }
  | _ => none }
def FnExactCyclesOfPlacesWrongFalsely : Prop := fnExactCyclesOfPlacesRow.holds Try.pinned (OpenSpec.ofChange fnExactCyclesOfPlacesWrong)

/- THE SECOND FORM. 'bulk': how many values and letters a reading holds, each counted each time it is reached (what is shared counts as often as it is met; a slice's spare places count too). A statement '..UptoSaid' is the law's where the arguments, and the package variables that the reading takes, are together of bulk at most 1048576: NARROWER than '..Said'. Prove '..Said' where nothing that the law and all that it calls make is longer than what came in: it says more and counts as full. Else prove '..UptoSaid'. A law counts once. -/
mutual
def uptoBulk {H : Type} : DataW H → Nat
  | .lit (.string bytes) => bytes.length + 1
  | .lit _ => 1
  | .nil => 1
  | .ptr d => uptoBulk d + 1
  | .slice elems spare => uptoBulkAll elems + uptoBulkAll spare + 1
  | .agg parts => uptoBulkAll parts + 1
  | .iface _ d => uptoBulk d + 1
  | .map entries => uptoBulkEntries entries + 1
  | .held _ => 1
def uptoBulkAll {H : Type} : List (DataW H) → Nat
  | [] => 0
  | d :: r => uptoBulk d + uptoBulkAll r
def uptoBulkEntries {H : Type} : List (Lit × DataW H) → Nat
  | [] => 0
  | x :: r => uptoBulkEntry x + uptoBulkEntries r
def uptoBulkEntry {H : Type} : Lit × DataW H → Nat
  | (.string bytes, d) => bytes.length + uptoBulk d + 1
  | (_, d) => uptoBulk d + 1
 end
def uptoSmall : (H : Type) → List (DataW H) → Bool := fun _ ds => decide (uptoBulkAll ds ≤ 1048576)
def OpenSpec.upto (s : _root_.Go.ChangeSpec) : _root_.Go.OpenSpec := { _root_.Go.OpenSpec.ofChange s with cond := some uptoSmall }

/-- 'laws.FnExactValueIn', WHERE WHAT IT READS IS OF BULK AT MOST 1048576: true; the input reads as it did. -/
def fnExactValueInUptoRow : OpenClaim := { program := "ytnkfghoajpghkaa", sum := "3b5dcc83fa3b8adefa706637bfc2cea1a2e9e01376adcdd67ae8b5eccb444e78", func := "loop.example/g01182/laws.FnExactValueIn", spec := "fnExactValueIn", unfollowed := true, recurses := true, apart := false, narrowed := true }
def FnExactValueInUptoSaid : Prop := fnExactValueInUptoRow.holds Try.pinned (OpenSpec.upto fnExactValueInSpec)

/-- 'laws.FnExactTimesMatrix', WHERE WHAT IT READS IS OF BULK AT MOST 1048576: true; the input reads as it did. -/
def fnExactTimesMatrixUptoRow : OpenClaim := { program := "ytnkfghoajpghkaa", sum := "3b5dcc83fa3b8adefa706637bfc2cea1a2e9e01376adcdd67ae8b5eccb444e78", func := "loop.example/g01182/laws.FnExactTimesMatrix", spec := "fnExactTimesMatrix", apart := false, narrowed := true }
def FnExactTimesMatrixUptoSaid : Prop := fnExactTimesMatrixUptoRow.holds Try.pinned (OpenSpec.upto fnExactTimesMatrixSpec)

/-- 'laws.FnExactBitsOfMatrix', WHERE WHAT IT READS IS OF BULK AT MOST 1048576: true; the input reads as it did. -/
def fnExactBitsOfMatrixUptoRow : OpenClaim := { program := "ytnkfghoajpghkaa", sum := "3b5dcc83fa3b8adefa706637bfc2cea1a2e9e01376adcdd67ae8b5eccb444e78", func := "loop.example/g01182/laws.FnExactBitsOfMatrix", spec := "fnExactBitsOfMatrix", apart := false, narrowed := true }
def FnExactBitsOfMatrixUptoSaid : Prop := fnExactBitsOfMatrixUptoRow.holds Try.pinned (OpenSpec.upto fnExactBitsOfMatrixSpec)

/-- 'laws.FnExactRankOfBits', WHERE WHAT IT READS IS OF BULK AT MOST 1048576: true; the input reads as it did. -/
def fnExactRankOfBitsUptoRow : OpenClaim := { program := "ytnkfghoajpghkaa", sum := "3b5dcc83fa3b8adefa706637bfc2cea1a2e9e01376adcdd67ae8b5eccb444e78", func := "loop.example/g01182/laws.FnExactRankOfBits", spec := "fnExactRankOfBits", unfollowed := true, recurses := true, apart := false, narrowed := true }
def FnExactRankOfBitsUptoSaid : Prop := fnExactRankOfBitsUptoRow.holds Try.pinned (OpenSpec.upto fnExactRankOfBitsSpec)

/-- 'laws.FnExactBytesOf', WHERE WHAT IT READS IS OF BULK AT MOST 1048576: true; the input reads as it did. -/
def fnExactBytesOfUptoRow : OpenClaim := { program := "ytnkfghoajpghkaa", sum := "3b5dcc83fa3b8adefa706637bfc2cea1a2e9e01376adcdd67ae8b5eccb444e78", func := "loop.example/g01182/laws.FnExactBytesOf", spec := "fnExactBytesOf", apart := false, narrowed := true }
def FnExactBytesOfUptoSaid : Prop := fnExactBytesOfUptoRow.holds Try.pinned (OpenSpec.upto fnExactBytesOfSpec)

/-- 'laws.FnExactBlocksOf', WHERE WHAT IT READS IS OF BULK AT MOST 1048576: true; the input reads as it did. -/
def fnExactBlocksOfUptoRow : OpenClaim := { program := "ytnkfghoajpghkaa", sum := "3b5dcc83fa3b8adefa706637bfc2cea1a2e9e01376adcdd67ae8b5eccb444e78", func := "loop.example/g01182/laws.FnExactBlocksOf", spec := "fnExactBlocksOf", apart := false, narrowed := true }
def FnExactBlocksOfUptoSaid : Prop := fnExactBlocksOfUptoRow.holds Try.pinned (OpenSpec.upto fnExactBlocksOfSpec)

/-- 'laws.FnExactDataOfBlocks', WHERE WHAT IT READS IS OF BULK AT MOST 1048576: true; the input reads as it did. -/
def fnExactDataOfBlocksUptoRow : OpenClaim := { program := "ytnkfghoajpghkaa", sum := "3b5dcc83fa3b8adefa706637bfc2cea1a2e9e01376adcdd67ae8b5eccb444e78", func := "loop.example/g01182/laws.FnExactDataOfBlocks", spec := "fnExactDataOfBlocks", apart := false, narrowed := true }
def FnExactDataOfBlocksUptoSaid : Prop := fnExactDataOfBlocksUptoRow.holds Try.pinned (OpenSpec.upto fnExactDataOfBlocksSpec)

/-- 'laws.FnExactMatrixText', WHERE WHAT IT READS IS OF BULK AT MOST 1048576: true; the input reads as it did. -/
def fnExactMatrixTextUptoRow : OpenClaim := { program := "ytnkfghoajpghkaa", sum := "3b5dcc83fa3b8adefa706637bfc2cea1a2e9e01376adcdd67ae8b5eccb444e78", func := "loop.example/g01182/laws.FnExactMatrixText", spec := "fnExactMatrixText", inPlace := ["internal/abi.NoEscape", "internal/bytealg.MakeNoZero"], apart := false, narrowed := true }
def FnExactMatrixTextUptoSaid : Prop := fnExactMatrixTextUptoRow.holds Try.pinned (OpenSpec.upto fnExactMatrixTextSpec)

/-- 'laws.FnExactCyclesOfPlaces', WHERE WHAT IT READS IS OF BULK AT MOST 1048576: true; the input reads as it did. -/
def fnExactCyclesOfPlacesUptoRow : OpenClaim := { program := "ytnkfghoajpghkaa", sum := "3b5dcc83fa3b8adefa706637bfc2cea1a2e9e01376adcdd67ae8b5eccb444e78", func := "loop.example/g01182/laws.FnExactCyclesOfPlaces", spec := "fnExactCyclesOfPlaces", inPlace := ["internal/bytealg.IndexByte"], apart := false, narrowed := true }
def FnExactCyclesOfPlacesUptoSaid : Prop := fnExactCyclesOfPlacesUptoRow.holds Try.pinned (OpenSpec.upto fnExactCyclesOfPlacesSpec)

end Rows
end Go.Proofs.Ytnkfghoajpghkaa
