/-
  No cell of these rows narrows 'for every input' (looked for: loops, veiled, ifaces, maps, wideKeys, modest, calm, conditions, laid).
  DERIVED. THE GIVEN ROWS OF THIS SEAT. 12 by the template 'for every input the law returns true; each argument reads behind the call as it read before'; 0 by the template 'total and deterministic' (their statements: YtbbmcpbdcdffeaaTotals.lean).
  GIVEN WITH THE SEED: the statements are not yours to turn. If you find one false, say at which input.
  Laid BY PROGRAM, IN A SANDBOX (cutbox-rows.mjs): the forced cells as the released guide's own fill.sh prints them over the translation 13bfa6a708c4fef5… (all of the seat's roots in one cut). By AI agents, Wed Nov 11 2026. No macro, syntax, notation, axiom, sorry.
-/
import Derived.Test.YtbbmcpbdcdffeaaChecked
import GoSem.Claim
import GoSem.ClaimJoined
import GoSem.ClaimMapViews
import Derived.JoinedTies
import Derived.KernelRfl
namespace Go.Proofs.Ytbbmcpbdcdffeaa
/- THE CELL 'sum', in the pinned program and in every row, IS THE sha256 OF THE DUMP (.gsa) THAT YtbbmcpbdcdffeaaProg.lean LOADS. Nothing in Lean hashes anything: it is a label: what it is worth is what the hold of that sum in a sandbox is worth. -/
noncomputable def Try.pinned : Pinned := { name := "ytbbmcpbdcdffeaa", sum := "13bfa6a708c4fef57a8d6a6e4704ea0d9cb21490e243693cb8ffa2ed00a0ccc6", checked := Try.checked }
namespace Rows
def none {H : Type} : Left H := { results := [], args := [] }

/-- 'laws.FnExactConstants': WHATEVER THE INPUT: true; the input reads as it did. -/
def fnExactConstantsSpec : ChangeSpec := { name := "fnExactConstants", fn := fun _ => fun
  | [] => { results := [.lit (.bool true)], args := [] }
  | _ => none }
def fnExactConstantsRow : OpenClaim := { program := "ytbbmcpbdcdffeaa", sum := "13bfa6a708c4fef57a8d6a6e4704ea0d9cb21490e243693cb8ffa2ed00a0ccc6", func := "loop.example/g01182/laws.FnExactConstants", spec := "fnExactConstants", apart := false }
def FnExactConstantsSaid : Prop := fnExactConstantsRow.holds Try.pinned (OpenSpec.ofChange fnExactConstantsSpec)

/-- ITS FALSE NEIGHBOUR: 'it returns false'. Refute it at one input. -/
def fnExactConstantsWrong : ChangeSpec := { name := "fnExactConstants", fn := fun _ => fun
  | [] => { results := [.lit (.bool false)], args := [] }
  | _ => none }
def FnExactConstantsWrongFalsely : Prop := fnExactConstantsRow.holds Try.pinned (OpenSpec.ofChange fnExactConstantsWrong)

/-- 'laws.FnExactBoxText': WHATEVER THE INPUT: true; the input reads as it did. -/
def fnExactBoxTextSpec : ChangeSpec := { name := "fnExactBoxText", fn := fun _ => fun
  | [d] => { results := [.lit (.bool true)], args := [d] }
  | _ => none }
def fnExactBoxTextRow : OpenClaim := { program := "ytbbmcpbdcdffeaa", sum := "13bfa6a708c4fef57a8d6a6e4704ea0d9cb21490e243693cb8ffa2ed00a0ccc6", func := "loop.example/g01182/laws.FnExactBoxText", spec := "fnExactBoxText", apart := false }
def FnExactBoxTextSaid : Prop := fnExactBoxTextRow.holds Try.pinned (OpenSpec.ofChange fnExactBoxTextSpec)

/-- ITS FALSE NEIGHBOUR: 'it returns false'. Refute it at one input. -/
def fnExactBoxTextWrong : ChangeSpec := { name := "fnExactBoxText", fn := fun _ => fun
  | [d] => { results := [.lit (.bool false)], args := [d] }
  | _ => none }
def FnExactBoxTextWrongFalsely : Prop := fnExactBoxTextRow.holds Try.pinned (OpenSpec.ofChange fnExactBoxTextWrong)

/-- 'laws.FnExactHexOf': WHATEVER THE INPUT: true; the input reads as it did. -/
def fnExactHexOfSpec : ChangeSpec := { name := "fnExactHexOf", fn := fun _ => fun
  | [d] => { results := [.lit (.bool true)], args := [d] }
  | _ => none }
def fnExactHexOfRow : OpenClaim := { program := "ytbbmcpbdcdffeaa", sum := "13bfa6a708c4fef57a8d6a6e4704ea0d9cb21490e243693cb8ffa2ed00a0ccc6", func := "loop.example/g01182/laws.FnExactHexOf", spec := "fnExactHexOf", apart := false }
def FnExactHexOfSaid : Prop := fnExactHexOfRow.holds Try.pinned (OpenSpec.ofChange fnExactHexOfSpec)

/-- ITS FALSE NEIGHBOUR: 'it returns false'. Refute it at one input. -/
def fnExactHexOfWrong : ChangeSpec := { name := "fnExactHexOf", fn := fun _ => fun
  | [d] => { results := [.lit (.bool false)], args := [d] }
  | _ => none }
def FnExactHexOfWrongFalsely : Prop := fnExactHexOfRow.holds Try.pinned (OpenSpec.ofChange fnExactHexOfWrong)

/-- 'laws.FnExactXorBlocks': WHATEVER THE INPUT: true; the input reads as it did. -/
def fnExactXorBlocksSpec : ChangeSpec := { name := "fnExactXorBlocks", fn := fun _ => fun
  | [d1, d2] => { results := [.lit (.bool true)], args := [d1, d2] }
  | _ => none }
def fnExactXorBlocksRow : OpenClaim := { program := "ytbbmcpbdcdffeaa", sum := "13bfa6a708c4fef57a8d6a6e4704ea0d9cb21490e243693cb8ffa2ed00a0ccc6", func := "loop.example/g01182/laws.FnExactXorBlocks", spec := "fnExactXorBlocks", apart := false }
def FnExactXorBlocksSaid : Prop := fnExactXorBlocksRow.holds Try.pinned (OpenSpec.ofChange fnExactXorBlocksSpec)

/-- ITS FALSE NEIGHBOUR: 'it returns false'. Refute it at one input. -/
def fnExactXorBlocksWrong : ChangeSpec := { name := "fnExactXorBlocks", fn := fun _ => fun
  | [d1, d2] => { results := [.lit (.bool false)], args := [d1, d2] }
  | _ => none }
def FnExactXorBlocksWrongFalsely : Prop := fnExactXorBlocksRow.holds Try.pinned (OpenSpec.ofChange fnExactXorBlocksWrong)

/-- 'laws.FnExactComposeBoxes': WHATEVER THE INPUT: true; the input reads as it did. -/
def fnExactComposeBoxesSpec : ChangeSpec := { name := "fnExactComposeBoxes", fn := fun _ => fun
  | [d1, d2] => { results := [.lit (.bool true)], args := [d1, d2] }
  | _ => none }
def fnExactComposeBoxesRow : OpenClaim := { program := "ytbbmcpbdcdffeaa", sum := "13bfa6a708c4fef57a8d6a6e4704ea0d9cb21490e243693cb8ffa2ed00a0ccc6", func := "loop.example/g01182/laws.FnExactComposeBoxes", spec := "fnExactComposeBoxes", apart := false }
def FnExactComposeBoxesSaid : Prop := fnExactComposeBoxesRow.holds Try.pinned (OpenSpec.ofChange fnExactComposeBoxesSpec)

/-- ITS FALSE NEIGHBOUR: 'it returns false'. Refute it at one input. -/
def fnExactComposeBoxesWrong : ChangeSpec := { name := "fnExactComposeBoxes", fn := fun _ => fun
  | [d1, d2] => { results := [.lit (.bool false)], args := [d1, d2] }
  | _ => none }
def FnExactComposeBoxesWrongFalsely : Prop := fnExactComposeBoxesRow.holds Try.pinned (OpenSpec.ofChange fnExactComposeBoxesWrong)

/-- 'laws.FnExactUnitMatrix': WHATEVER THE INPUT: true; the input reads as it did. -/
def fnExactUnitMatrixSpec : ChangeSpec := { name := "fnExactUnitMatrix", fn := fun _ => fun
  | [] => { results := [.lit (.bool true)], args := [] }
  | _ => none }
def fnExactUnitMatrixRow : OpenClaim := { program := "ytbbmcpbdcdffeaa", sum := "13bfa6a708c4fef57a8d6a6e4704ea0d9cb21490e243693cb8ffa2ed00a0ccc6", func := "loop.example/g01182/laws.FnExactUnitMatrix", spec := "fnExactUnitMatrix", apart := false }
def FnExactUnitMatrixSaid : Prop := fnExactUnitMatrixRow.holds Try.pinned (OpenSpec.ofChange fnExactUnitMatrixSpec)

/-- ITS FALSE NEIGHBOUR: 'it returns false'. Refute it at one input. -/
def fnExactUnitMatrixWrong : ChangeSpec := { name := "fnExactUnitMatrix", fn := fun _ => fun
  | [] => { results := [.lit (.bool false)], args := [] }
  | _ => none }
def FnExactUnitMatrixWrongFalsely : Prop := fnExactUnitMatrixRow.holds Try.pinned (OpenSpec.ofChange fnExactUnitMatrixWrong)

/-- 'laws.FnExactTransposeOf': WHATEVER THE INPUT: true; the input reads as it did. -/
def fnExactTransposeOfSpec : ChangeSpec := { name := "fnExactTransposeOf", fn := fun _ => fun
  | [d] => { results := [.lit (.bool true)], args := [d] }
  | _ => none }
def fnExactTransposeOfRow : OpenClaim := { program := "ytbbmcpbdcdffeaa", sum := "13bfa6a708c4fef57a8d6a6e4704ea0d9cb21490e243693cb8ffa2ed00a0ccc6", func := "loop.example/g01182/laws.FnExactTransposeOf", spec := "fnExactTransposeOf", apart := false }
def FnExactTransposeOfSaid : Prop := fnExactTransposeOfRow.holds Try.pinned (OpenSpec.ofChange fnExactTransposeOfSpec)

/-- ITS FALSE NEIGHBOUR: 'it returns false'. Refute it at one input. -/
def fnExactTransposeOfWrong : ChangeSpec := { name := "fnExactTransposeOf", fn := fun _ => fun
  | [d] => { results := [.lit (.bool false)], args := [d] }
  | _ => none }
def FnExactTransposeOfWrongFalsely : Prop := fnExactTransposeOfRow.holds Try.pinned (OpenSpec.ofChange fnExactTransposeOfWrong)

/-- 'laws.FnExactBiasOf': WHATEVER THE INPUT: true; the input reads as it did. -/
def fnExactBiasOfSpec : ChangeSpec := { name := "fnExactBiasOf", fn := fun _ => fun
  | [d1, d2, d3] => { results := [.lit (.bool true)], args := [d1, d2, d3] }
  | _ => none }
def fnExactBiasOfRow : OpenClaim := { program := "ytbbmcpbdcdffeaa", sum := "13bfa6a708c4fef57a8d6a6e4704ea0d9cb21490e243693cb8ffa2ed00a0ccc6", func := "loop.example/g01182/laws.FnExactBiasOf", spec := "fnExactBiasOf", apart := false }
def FnExactBiasOfSaid : Prop := fnExactBiasOfRow.holds Try.pinned (OpenSpec.ofChange fnExactBiasOfSpec)

/-- ITS FALSE NEIGHBOUR: 'it returns false'. Refute it at one input. -/
def fnExactBiasOfWrong : ChangeSpec := { name := "fnExactBiasOf", fn := fun _ => fun
  | [d1, d2, d3] => { results := [.lit (.bool false)], args := [d1, d2, d3] }
  | _ => none }
def FnExactBiasOfWrongFalsely : Prop := fnExactBiasOfRow.holds Try.pinned (OpenSpec.ofChange fnExactBiasOfWrong)

/-- 'laws.FnExactIsPermutation': WHATEVER THE INPUT: true; the input reads as it did. -/
def fnExactIsPermutationSpec : ChangeSpec := { name := "fnExactIsPermutation", fn := fun _ => fun
  | [d] => { results := [.lit (.bool true)], args := [d] }
  | _ => none }
def fnExactIsPermutationRow : OpenClaim := { program := "ytbbmcpbdcdffeaa", sum := "13bfa6a708c4fef57a8d6a6e4704ea0d9cb21490e243693cb8ffa2ed00a0ccc6", func := "loop.example/g01182/laws.FnExactIsPermutation", spec := "fnExactIsPermutation", apart := false }
def FnExactIsPermutationSaid : Prop := fnExactIsPermutationRow.holds Try.pinned (OpenSpec.ofChange fnExactIsPermutationSpec)

/-- ITS FALSE NEIGHBOUR: 'it returns false'. Refute it at one input. -/
def fnExactIsPermutationWrong : ChangeSpec := { name := "fnExactIsPermutation", fn := fun _ => fun
  | [d] => { results := [.lit (.bool false)], args := [d] }
  | _ => none }
def FnExactIsPermutationWrongFalsely : Prop := fnExactIsPermutationRow.holds Try.pinned (OpenSpec.ofChange fnExactIsPermutationWrong)

/-- 'laws.FnExactArePlaces': WHATEVER THE INPUT: true; the input reads as it did. -/
def fnExactArePlacesSpec : ChangeSpec := { name := "fnExactArePlaces", fn := fun _ => fun
  | [d] => { results := [.lit (.bool true)], args := [d] }
  | _ => none }
def fnExactArePlacesRow : OpenClaim := { program := "ytbbmcpbdcdffeaa", sum := "13bfa6a708c4fef57a8d6a6e4704ea0d9cb21490e243693cb8ffa2ed00a0ccc6", func := "loop.example/g01182/laws.FnExactArePlaces", spec := "fnExactArePlaces", inPlace := ["internal/bytealg.IndexByte"], apart := false }
def FnExactArePlacesSaid : Prop := fnExactArePlacesRow.holds Try.pinned (OpenSpec.ofChange fnExactArePlacesSpec)

/-- ITS FALSE NEIGHBOUR: 'it returns false'. Refute it at one input. -/
def fnExactArePlacesWrong : ChangeSpec := { name := "fnExactArePlaces", fn := fun _ => fun
  | [d] => { results := [.lit (.bool false)], args := [d] }
  | _ => none }
def FnExactArePlacesWrongFalsely : Prop := fnExactArePlacesRow.holds Try.pinned (OpenSpec.ofChange fnExactArePlacesWrong)

/-- 'laws.FnExactDegreeOf': WHATEVER THE INPUT: true; the input reads as it did. -/
def fnExactDegreeOfSpec : ChangeSpec := { name := "fnExactDegreeOf", fn := fun _ => fun
  | [d] => { results := [.lit (.bool true)], args := [d] }
  | _ => none }
def fnExactDegreeOfRow : OpenClaim := { program := "ytbbmcpbdcdffeaa", sum := "13bfa6a708c4fef57a8d6a6e4704ea0d9cb21490e243693cb8ffa2ed00a0ccc6", func := "loop.example/g01182/laws.FnExactDegreeOf", spec := "fnExactDegreeOf", apart := false }
def FnExactDegreeOfSaid : Prop := fnExactDegreeOfRow.holds Try.pinned (OpenSpec.ofChange fnExactDegreeOfSpec)

/-- ITS FALSE NEIGHBOUR: 'it returns false'. Refute it at one input. -/
def fnExactDegreeOfWrong : ChangeSpec := { name := "fnExactDegreeOf", fn := fun _ => fun
  | [d] => { results := [.lit (.bool false)], args := [d] }
  | _ => none }
def FnExactDegreeOfWrongFalsely : Prop := fnExactDegreeOfRow.holds Try.pinned (OpenSpec.ofChange fnExactDegreeOfWrong)

/-- 'laws.FnExactInverseBox': WHATEVER THE INPUT: true; the input reads as it did. -/
def fnExactInverseBoxSpec : ChangeSpec := { name := "fnExactInverseBox", fn := fun _ => fun
  | [d] => { results := [.lit (.bool true)], args := [d] }
  | _ => none }
def fnExactInverseBoxRow : OpenClaim := { program := "ytbbmcpbdcdffeaa", sum := "13bfa6a708c4fef57a8d6a6e4704ea0d9cb21490e243693cb8ffa2ed00a0ccc6", func := "loop.example/g01182/laws.FnExactInverseBox", spec := "fnExactInverseBox", apart := false }
def FnExactInverseBoxSaid : Prop := fnExactInverseBoxRow.holds Try.pinned (OpenSpec.ofChange fnExactInverseBoxSpec)

/-- ITS FALSE NEIGHBOUR: 'it returns false'. Refute it at one input. -/
def fnExactInverseBoxWrong : ChangeSpec := { name := "fnExactInverseBox", fn := fun _ => fun
  | [d] => { results := [.lit (.bool false)], args := [d] }
  | _ => none }
def FnExactInverseBoxWrongFalsely : Prop := fnExactInverseBoxRow.holds Try.pinned (OpenSpec.ofChange fnExactInverseBoxWrong)

/- THE SECOND FORM. 'bulk': how many values and letters a reading holds, each counted each time it is reached (what is shared counts as often as it is met; a slice's spare places count too). A statement '..UptoSaid' is the law's where the arguments, and the package variables that the reading takes, are together of bulk at most 1048576: NARROWER than '..Said'. Prove '..Said' where nothing that the law and all that it calls make is longer than what came in: it says more and counts as full. Else prove '..UptoSaid'. A law counts once. -/
mutual
def uptoBulk {H : Type} : DataW H → Nat
  | .lit (.string bytes) => bytes.length + 1
  | .lit _ => 1
  | .nil => 1
  | .ptr d => uptoBulk d + 1
  | .slice elems spare => uptoBulkAll elems + uptoBulkAll spare + 1
  | .agg parts => uptoBulkAll parts + 1
  | .iface _ d => uptoBulk d + 1
  | .map entries => uptoBulkEntries entries + 1
  | .held _ => 1
def uptoBulkAll {H : Type} : List (DataW H) → Nat
  | [] => 0
  | d :: r => uptoBulk d + uptoBulkAll r
def uptoBulkEntries {H : Type} : List (Lit × DataW H) → Nat
  | [] => 0
  | x :: r => uptoBulkEntry x + uptoBulkEntries r
def uptoBulkEntry {H : Type} : Lit × DataW H → Nat
  | (.string bytes, d) => bytes.length + uptoBulk d + 1
  | (_, d) => uptoBulk d + 1
 end
def uptoSmall : (H : Type) → List (DataW H) → Bool := fun _ ds => decide (uptoBulkAll ds ≤ 1048576)
def OpenSpec.upto (s : _root_.Go.ChangeSpec) : _root_.Go.OpenSpec := { _root_.Go.OpenSpec.ofChange s with cond := some uptoSmall }

/-- 'laws.FnExactConstants', WHERE WHAT IT READS IS OF BULK AT MOST 1048576: true; the input reads as it did. -/
def fnExactConstantsUptoRow : OpenClaim := { program := "ytbbmcpbdcdffeaa", sum := "13bfa6a708c4fef57a8d6a6e4704ea0d9cb21490e243693cb8ffa2ed00a0ccc6", func := "loop.example/g01182/laws.FnExactConstants", spec := "fnExactConstants", apart := false, narrowed := true }
def FnExactConstantsUptoSaid : Prop := fnExactConstantsUptoRow.holds Try.pinned (OpenSpec.upto fnExactConstantsSpec)

/-- 'laws.FnExactBoxText', WHERE WHAT IT READS IS OF BULK AT MOST 1048576: true; the input reads as it did. -/
def fnExactBoxTextUptoRow : OpenClaim := { program := "ytbbmcpbdcdffeaa", sum := "13bfa6a708c4fef57a8d6a6e4704ea0d9cb21490e243693cb8ffa2ed00a0ccc6", func := "loop.example/g01182/laws.FnExactBoxText", spec := "fnExactBoxText", apart := false, narrowed := true }
def FnExactBoxTextUptoSaid : Prop := fnExactBoxTextUptoRow.holds Try.pinned (OpenSpec.upto fnExactBoxTextSpec)

/-- 'laws.FnExactHexOf', WHERE WHAT IT READS IS OF BULK AT MOST 1048576: true; the input reads as it did. -/
def fnExactHexOfUptoRow : OpenClaim := { program := "ytbbmcpbdcdffeaa", sum := "13bfa6a708c4fef57a8d6a6e4704ea0d9cb21490e243693cb8ffa2ed00a0ccc6", func := "loop.example/g01182/laws.FnExactHexOf", spec := "fnExactHexOf", apart := false, narrowed := true }
def FnExactHexOfUptoSaid : Prop := fnExactHexOfUptoRow.holds Try.pinned (OpenSpec.upto fnExactHexOfSpec)

/-- 'laws.FnExactXorBlocks', WHERE WHAT IT READS IS OF BULK AT MOST 1048576: true; the input reads as it did. -/
def fnExactXorBlocksUptoRow : OpenClaim := { program := "ytbbmcpbdcdffeaa", sum := "13bfa6a708c4fef57a8d6a6e4704ea0d9cb21490e243693cb8ffa2ed00a0ccc6", func := "loop.example/g01182/laws.FnExactXorBlocks", spec := "fnExactXorBlocks", apart := false, narrowed := true }
def FnExactXorBlocksUptoSaid : Prop := fnExactXorBlocksUptoRow.holds Try.pinned (OpenSpec.upto fnExactXorBlocksSpec)

/-- 'laws.FnExactComposeBoxes', WHERE WHAT IT READS IS OF BULK AT MOST 1048576: true; the input reads as it did. -/
def fnExactComposeBoxesUptoRow : OpenClaim := { program := "ytbbmcpbdcdffeaa", sum := "13bfa6a708c4fef57a8d6a6e4704ea0d9cb21490e243693cb8ffa2ed00a0ccc6", func := "loop.example/g01182/laws.FnExactComposeBoxes", spec := "fnExactComposeBoxes", apart := false, narrowed := true }
def FnExactComposeBoxesUptoSaid : Prop := fnExactComposeBoxesUptoRow.holds Try.pinned (OpenSpec.upto fnExactComposeBoxesSpec)

/-- 'laws.FnExactUnitMatrix', WHERE WHAT IT READS IS OF BULK AT MOST 1048576: true; the input reads as it did. -/
def fnExactUnitMatrixUptoRow : OpenClaim := { program := "ytbbmcpbdcdffeaa", sum := "13bfa6a708c4fef57a8d6a6e4704ea0d9cb21490e243693cb8ffa2ed00a0ccc6", func := "loop.example/g01182/laws.FnExactUnitMatrix", spec := "fnExactUnitMatrix", apart := false, narrowed := true }
def FnExactUnitMatrixUptoSaid : Prop := fnExactUnitMatrixUptoRow.holds Try.pinned (OpenSpec.upto fnExactUnitMatrixSpec)

/-- 'laws.FnExactTransposeOf', WHERE WHAT IT READS IS OF BULK AT MOST 1048576: true; the input reads as it did. -/
def fnExactTransposeOfUptoRow : OpenClaim := { program := "ytbbmcpbdcdffeaa", sum := "13bfa6a708c4fef57a8d6a6e4704ea0d9cb21490e243693cb8ffa2ed00a0ccc6", func := "loop.example/g01182/laws.FnExactTransposeOf", spec := "fnExactTransposeOf", apart := false, narrowed := true }
def FnExactTransposeOfUptoSaid : Prop := fnExactTransposeOfUptoRow.holds Try.pinned (OpenSpec.upto fnExactTransposeOfSpec)

/-- 'laws.FnExactBiasOf', WHERE WHAT IT READS IS OF BULK AT MOST 1048576: true; the input reads as it did. -/
def fnExactBiasOfUptoRow : OpenClaim := { program := "ytbbmcpbdcdffeaa", sum := "13bfa6a708c4fef57a8d6a6e4704ea0d9cb21490e243693cb8ffa2ed00a0ccc6", func := "loop.example/g01182/laws.FnExactBiasOf", spec := "fnExactBiasOf", apart := false, narrowed := true }
def FnExactBiasOfUptoSaid : Prop := fnExactBiasOfUptoRow.holds Try.pinned (OpenSpec.upto fnExactBiasOfSpec)

/-- 'laws.FnExactIsPermutation', WHERE WHAT IT READS IS OF BULK AT MOST 1048576: true; the input reads as it did. -/
def fnExactIsPermutationUptoRow : OpenClaim := { program := "ytbbmcpbdcdffeaa", sum := "13bfa6a708c4fef57a8d6a6e4704ea0d9cb21490e243693cb8ffa2ed00a0ccc6", func := "loop.example/g01182/laws.FnExactIsPermutation", spec := "fnExactIsPermutation", apart := false, narrowed := true }
def FnExactIsPermutationUptoSaid : Prop := fnExactIsPermutationUptoRow.holds Try.pinned (OpenSpec.upto fnExactIsPermutationSpec)

/-- 'laws.FnExactArePlaces', WHERE WHAT IT READS IS OF BULK AT MOST 1048576: true; the input reads as it did. -/
def fnExactArePlacesUptoRow : OpenClaim := { program := "ytbbmcpbdcdffeaa", sum := "13bfa6a708c4fef57a8d6a6e4704ea0d9cb21490e243693cb8ffa2ed00a0ccc6", func := "loop.example/g01182/laws.FnExactArePlaces", spec := "fnExactArePlaces", inPlace := ["internal/bytealg.IndexByte"], apart := false, narrowed := true }
def FnExactArePlacesUptoSaid : Prop := fnExactArePlacesUptoRow.holds Try.pinned (OpenSpec.upto fnExactArePlacesSpec)

/-- 'laws.FnExactDegreeOf', WHERE WHAT IT READS IS OF BULK AT MOST 1048576: true; the input reads as it did. -/
def fnExactDegreeOfUptoRow : OpenClaim := { program := "ytbbmcpbdcdffeaa", sum := "13bfa6a708c4fef57a8d6a6e4704ea0d9cb21490e243693cb8ffa2ed00a0ccc6", func := "loop.example/g01182/laws.FnExactDegreeOf", spec := "fnExactDegreeOf", apart := false, narrowed := true }
def FnExactDegreeOfUptoSaid : Prop := fnExactDegreeOfUptoRow.holds Try.pinned (OpenSpec.upto fnExactDegreeOfSpec)

/-- 'laws.FnExactInverseBox', WHERE WHAT IT READS IS OF BULK AT MOST 1048576: true; the input reads as it did. -/
def fnExactInverseBoxUptoRow : OpenClaim := { program := "ytbbmcpbdcdffeaa", sum := "13bfa6a708c4fef57a8d6a6e4704ea0d9cb21490e243693cb8ffa2ed00a0ccc6", func := "loop.example/g01182/laws.FnExactInverseBox", spec := "fnExactInverseBox", apart := false, narrowed := true }
def FnExactInverseBoxUptoSaid : Prop := fnExactInverseBoxUptoRow.holds Try.pinned (OpenSpec.upto fnExactInverseBoxSpec)

end Rows
end Go.Proofs.Ytbbmcpbdcdffeaa
