/-
  No cell of these rows narrows 'for every input' (looked for: loops, veiled, ifaces, maps, wideKeys, modest, calm, conditions, laid).
  DERIVED. THE GIVEN ROWS OF THIS SEAT. 12 by the template 'for every input the law returns true; each argument reads behind the call as it read before'; 0 by the template 'total and deterministic' (their statements: YtdhlfbipljelcaaTotals.lean).
  GIVEN WITH THE SEED: the statements are not yours to turn. If you find one false, say at which input.
  Laid BY PROGRAM, IN A SANDBOX (cutbox-rows.mjs): the forced cells as the released guide's own fill.sh prints them over the translation b32dbab65d7972e6… (all of the seat's roots in one cut). By AI agents, Wed Nov 11 2026. No macro, syntax, notation, axiom, sorry.
-/
import Derived.Test.YtdhlfbipljelcaaChecked
import GoSem.Claim
import GoSem.ClaimJoined
import GoSem.ClaimMapViews
import Derived.JoinedTies
import Derived.KernelRfl
namespace Go.Proofs.Ytdhlfbipljelcaa
/- THE CELL 'sum', in the pinned program and in every row, IS THE sha256 OF THE DUMP (.gsa) THAT YtdhlfbipljelcaaProg.lean LOADS. Nothing in Lean hashes anything: it is a label: what it is worth is what the hold of that sum in a sandbox is worth. -/
noncomputable def Try.pinned : Pinned := { name := "ytdhlfbipljelcaa", sum := "b32dbab65d7972e69988d3ef368612fa138d3030f82ad83ccfa254c2ddb15aea", checked := Try.checked }
namespace Rows
def none {H : Type} : Left H := { results := [], args := [] }

/-- 'laws.FnExactUniformityOf': WHATEVER THE INPUT: true; the input reads as it did. -/
def fnExactUniformityOfSpec : ChangeSpec := { name := "fnExactUniformityOf", fn := fun _ => fun
  | [d] => { results := [.lit (.bool true)], args := [d] }
  | _ => none }
def fnExactUniformityOfRow : OpenClaim := { program := "ytdhlfbipljelcaa", sum := "b32dbab65d7972e69988d3ef368612fa138d3030f82ad83ccfa254c2ddb15aea", func := "loop.example/g01182/laws.FnExactUniformityOf", spec := "fnExactUniformityOf", apart := false }
def FnExactUniformityOfSaid : Prop := fnExactUniformityOfRow.holds Try.pinned (OpenSpec.ofChange fnExactUniformityOfSpec)

/-- ITS FALSE NEIGHBOUR: 'it returns false'. Refute it at one input. -/
def fnExactUniformityOfWrong : ChangeSpec := { name := "fnExactUniformityOf", fn := fun _ => fun
  | [d] => { results := [.lit (.bool false)], args := [d] }
  | _ => none }
def FnExactUniformityOfWrongFalsely : Prop := fnExactUniformityOfRow.holds Try.pinned (OpenSpec.ofChange fnExactUniformityOfWrong)

/-- 'laws.FnExactDifferencesOf': WHATEVER THE INPUT: true; the input reads as it did. -/
def fnExactDifferencesOfSpec : ChangeSpec := { name := "fnExactDifferencesOf", fn := fun _ => fun
  | [d1, d2] => { results := [.lit (.bool true)], args := [d1, d2] }
  | _ => none }
def fnExactDifferencesOfRow : OpenClaim := { program := "ytdhlfbipljelcaa", sum := "b32dbab65d7972e69988d3ef368612fa138d3030f82ad83ccfa254c2ddb15aea", func := "loop.example/g01182/laws.FnExactDifferencesOf", spec := "fnExactDifferencesOf", apart := false }
def FnExactDifferencesOfSaid : Prop := fnExactDifferencesOfRow.holds Try.pinned (OpenSpec.ofChange fnExactDifferencesOfSpec)

/-- ITS FALSE NEIGHBOUR: 'it returns false'. Refute it at one input. -/
def fnExactDifferencesOfWrong : ChangeSpec := { name := "fnExactDifferencesOf", fn := fun _ => fun
  | [d1, d2] => { results := [.lit (.bool false)], args := [d1, d2] }
  | _ => none }
def FnExactDifferencesOfWrongFalsely : Prop := fnExactDifferencesOfRow.holds Try.pinned (OpenSpec.ofChange fnExactDifferencesOfWrong)

/-- 'laws.FnExactLinearityOf': WHATEVER THE INPUT: true; the input reads as it did. -/
def fnExactLinearityOfSpec : ChangeSpec := { name := "fnExactLinearityOf", fn := fun _ => fun
  | [d] => { results := [.lit (.bool true)], args := [d] }
  | _ => none }
def fnExactLinearityOfRow : OpenClaim := { program := "ytdhlfbipljelcaa", sum := "b32dbab65d7972e69988d3ef368612fa138d3030f82ad83ccfa254c2ddb15aea", func := "loop.example/g01182/laws.FnExactLinearityOf", spec := "fnExactLinearityOf", apart := false }
def FnExactLinearityOfSaid : Prop := fnExactLinearityOfRow.holds Try.pinned (OpenSpec.ofChange fnExactLinearityOfSpec)

/-- ITS FALSE NEIGHBOUR: 'it returns false'. Refute it at one input. -/
def fnExactLinearityOfWrong : ChangeSpec := { name := "fnExactLinearityOf", fn := fun _ => fun
  | [d] => { results := [.lit (.bool false)], args := [d] }
  | _ => none }
def FnExactLinearityOfWrongFalsely : Prop := fnExactLinearityOfRow.holds Try.pinned (OpenSpec.ofChange fnExactLinearityOfWrong)

/-- 'laws.FnExactFixedPointsOf': WHATEVER THE INPUT: true; the input reads as it did. -/
def fnExactFixedPointsOfSpec : ChangeSpec := { name := "fnExactFixedPointsOf", fn := fun _ => fun
  | [d] => { results := [.lit (.bool true)], args := [d] }
  | _ => none }
def fnExactFixedPointsOfRow : OpenClaim := { program := "ytdhlfbipljelcaa", sum := "b32dbab65d7972e69988d3ef368612fa138d3030f82ad83ccfa254c2ddb15aea", func := "loop.example/g01182/laws.FnExactFixedPointsOf", spec := "fnExactFixedPointsOf", apart := false }
def FnExactFixedPointsOfSaid : Prop := fnExactFixedPointsOfRow.holds Try.pinned (OpenSpec.ofChange fnExactFixedPointsOfSpec)

/-- ITS FALSE NEIGHBOUR: 'it returns false'. Refute it at one input. -/
def fnExactFixedPointsOfWrong : ChangeSpec := { name := "fnExactFixedPointsOf", fn := fun _ => fun
  | [d] => { results := [.lit (.bool false)], args := [d] }
  | _ => none }
def FnExactFixedPointsOfWrongFalsely : Prop := fnExactFixedPointsOfRow.holds Try.pinned (OpenSpec.ofChange fnExactFixedPointsOfWrong)

/-- 'laws.FnExactPowerOfBox': WHATEVER THE INPUT: true; the input reads as it did. -/
def fnExactPowerOfBoxSpec : ChangeSpec := { name := "fnExactPowerOfBox", fn := fun _ => fun
  | [d1, d2] => { results := [.lit (.bool true)], args := [d1, d2] }
  | _ => none }
def fnExactPowerOfBoxRow : OpenClaim := { program := "ytdhlfbipljelcaa", sum := "b32dbab65d7972e69988d3ef368612fa138d3030f82ad83ccfa254c2ddb15aea", func := "loop.example/g01182/laws.FnExactPowerOfBox", spec := "fnExactPowerOfBox", apart := false }
def FnExactPowerOfBoxSaid : Prop := fnExactPowerOfBoxRow.holds Try.pinned (OpenSpec.ofChange fnExactPowerOfBoxSpec)

/-- ITS FALSE NEIGHBOUR: 'it returns false'. Refute it at one input. -/
def fnExactPowerOfBoxWrong : ChangeSpec := { name := "fnExactPowerOfBox", fn := fun _ => fun
  | [d1, d2] => { results := [.lit (.bool false)], args := [d1, d2] }
  | _ => none }
def FnExactPowerOfBoxWrongFalsely : Prop := fnExactPowerOfBoxRow.holds Try.pinned (OpenSpec.ofChange fnExactPowerOfBoxWrong)

/-- 'laws.FnExactInversePlaces': WHATEVER THE INPUT: true; the input reads as it did. -/
def fnExactInversePlacesSpec : ChangeSpec := { name := "fnExactInversePlaces", fn := fun _ => fun
  | [d] => { results := [.lit (.bool true)], args := [d] }
  | _ => none }
def fnExactInversePlacesRow : OpenClaim := { program := "ytdhlfbipljelcaa", sum := "b32dbab65d7972e69988d3ef368612fa138d3030f82ad83ccfa254c2ddb15aea", func := "loop.example/g01182/laws.FnExactInversePlaces", spec := "fnExactInversePlaces", inPlace := ["internal/bytealg.IndexByte"], apart := false }
def FnExactInversePlacesSaid : Prop := fnExactInversePlacesRow.holds Try.pinned (OpenSpec.ofChange fnExactInversePlacesSpec)

/-- ITS FALSE NEIGHBOUR: 'it returns false'. Refute it at one input. -/
def fnExactInversePlacesWrong : ChangeSpec := { name := "fnExactInversePlaces", fn := fun _ => fun
  | [d] => { results := [.lit (.bool false)], args := [d] }
  | _ => none }
def FnExactInversePlacesWrongFalsely : Prop := fnExactInversePlacesRow.holds Try.pinned (OpenSpec.ofChange fnExactInversePlacesWrong)

/-- 'laws.FnExactComposePlaces': WHATEVER THE INPUT: true; the input reads as it did. -/
def fnExactComposePlacesSpec : ChangeSpec := { name := "fnExactComposePlaces", fn := fun _ => fun
  | [d1, d2] => { results := [.lit (.bool true)], args := [d1, d2] }
  | _ => none }
def fnExactComposePlacesRow : OpenClaim := { program := "ytdhlfbipljelcaa", sum := "b32dbab65d7972e69988d3ef368612fa138d3030f82ad83ccfa254c2ddb15aea", func := "loop.example/g01182/laws.FnExactComposePlaces", spec := "fnExactComposePlaces", inPlace := ["internal/bytealg.IndexByte"], apart := false }
def FnExactComposePlacesSaid : Prop := fnExactComposePlacesRow.holds Try.pinned (OpenSpec.ofChange fnExactComposePlacesSpec)

/-- ITS FALSE NEIGHBOUR: 'it returns false'. Refute it at one input. -/
def fnExactComposePlacesWrong : ChangeSpec := { name := "fnExactComposePlaces", fn := fun _ => fun
  | [d1, d2] => { results := [.lit (.bool false)], args := [d1, d2] }
  | _ => none }
def FnExactComposePlacesWrongFalsely : Prop := fnExactComposePlacesRow.holds Try.pinned (OpenSpec.ofChange fnExactComposePlacesWrong)

/-- 'laws.FnExactIsSpreading': WHATEVER THE INPUT: true; the input reads as it did. -/
def fnExactIsSpreadingSpec : ChangeSpec := { name := "fnExactIsSpreading", fn := fun _ => fun
  | [d] => { results := [.lit (.bool true)], args := [d] }
  | _ => none }
def fnExactIsSpreadingRow : OpenClaim := { program := "ytdhlfbipljelcaa", sum := "b32dbab65d7972e69988d3ef368612fa138d3030f82ad83ccfa254c2ddb15aea", func := "loop.example/g01182/laws.FnExactIsSpreading", spec := "fnExactIsSpreading", inPlace := ["internal/bytealg.IndexByte"], apart := false }
def FnExactIsSpreadingSaid : Prop := fnExactIsSpreadingRow.holds Try.pinned (OpenSpec.ofChange fnExactIsSpreadingSpec)

/-- ITS FALSE NEIGHBOUR: 'it returns false'. Refute it at one input. -/
def fnExactIsSpreadingWrong : ChangeSpec := { name := "fnExactIsSpreading", fn := fun _ => fun
  | [d] => { results := [.lit (.bool false)], args := [d] }
  | _ => none }
def FnExactIsSpreadingWrongFalsely : Prop := fnExactIsSpreadingRow.holds Try.pinned (OpenSpec.ofChange fnExactIsSpreadingWrong)

/-- 'laws.FnExactMoveBlock': WHATEVER THE INPUT: true; the input reads as it did. -/
def fnExactMoveBlockSpec : ChangeSpec := { name := "fnExactMoveBlock", fn := fun _ => fun
  | [d1, d2] => { results := [.lit (.bool true)], args := [d1, d2] }
  | _ => none }
def fnExactMoveBlockRow : OpenClaim := { program := "ytdhlfbipljelcaa", sum := "b32dbab65d7972e69988d3ef368612fa138d3030f82ad83ccfa254c2ddb15aea", func := "loop.example/g01182/laws.FnExactMoveBlock", spec := "fnExactMoveBlock", inPlace := ["internal/bytealg.IndexByte"], apart := false }
def FnExactMoveBlockSaid : Prop := fnExactMoveBlockRow.holds Try.pinned (OpenSpec.ofChange fnExactMoveBlockSpec)

/-- ITS FALSE NEIGHBOUR: 'it returns false'. Refute it at one input. -/
def fnExactMoveBlockWrong : ChangeSpec := { name := "fnExactMoveBlock", fn := fun _ => fun
  | [d1, d2] => { results := [.lit (.bool false)], args := [d1, d2] }
  | _ => none }
def FnExactMoveBlockWrongFalsely : Prop := fnExactMoveBlockRow.holds Try.pinned (OpenSpec.ofChange fnExactMoveBlockWrong)

/-- 'laws.FnExactParseBox': WHATEVER THE INPUT: true; the input reads as it did. -/
def fnExactParseBoxSpec : ChangeSpec := { name := "fnExactParseBox", fn := fun _ => fun
  | [d] => { results := [.lit (.bool true)], args := [d] }
  | _ => none }
def fnExactParseBoxRow : OpenClaim := { program := "ytdhlfbipljelcaa", sum := "b32dbab65d7972e69988d3ef368612fa138d3030f82ad83ccfa254c2ddb15aea", func := "loop.example/g01182/laws.FnExactParseBox", spec := "fnExactParseBox", apart := false }
def FnExactParseBoxSaid : Prop := fnExactParseBoxRow.holds Try.pinned (OpenSpec.ofChange fnExactParseBoxSpec)

/-- ITS FALSE NEIGHBOUR: 'it returns false'. Refute it at one input. -/
def fnExactParseBoxWrong : ChangeSpec := { name := "fnExactParseBox", fn := fun _ => fun
  | [d] => { results := [.lit (.bool false)], args := [d] }
  | _ => none }
def FnExactParseBoxWrongFalsely : Prop := fnExactParseBoxRow.holds Try.pinned (OpenSpec.ofChange fnExactParseBoxWrong)

/-- 'laws.FnExactRotationBox': WHATEVER THE INPUT: true; the input reads as it did. -/
def fnExactRotationBoxSpec : ChangeSpec := { name := "fnExactRotationBox", fn := fun _ => fun
  | [d1, d2] => { results := [.lit (.bool true)], args := [d1, d2] }
  | _ => none }
def fnExactRotationBoxRow : OpenClaim := { program := "ytdhlfbipljelcaa", sum := "b32dbab65d7972e69988d3ef368612fa138d3030f82ad83ccfa254c2ddb15aea", func := "loop.example/g01182/laws.FnExactRotationBox", spec := "fnExactRotationBox", apart := false }
def FnExactRotationBoxSaid : Prop := fnExactRotationBoxRow.holds Try.pinned (OpenSpec.ofChange fnExactRotationBoxSpec)

/-- ITS FALSE NEIGHBOUR: 'it returns false'. Refute it at one input. -/
def fnExactRotationBoxWrong : ChangeSpec := { name := "fnExactRotationBox", fn := fun _ => fun
  | [d1, d2] => { results := [.lit (.bool false)], args := [d1, d2] }
  | _ => none }
def FnExactRotationBoxWrongFalsely : Prop := fnExactRotationBoxRow.holds Try.pinned (OpenSpec.ofChange fnExactRotationBoxWrong)

/-- 'laws.FnExactCirculantMatrix': WHATEVER THE INPUT: true; the input reads as it did. -/
def fnExactCirculantMatrixSpec : ChangeSpec := { name := "fnExactCirculantMatrix", fn := fun _ => fun
  | [d] => { results := [.lit (.bool true)], args := [d] }
  | _ => none }
def fnExactCirculantMatrixRow : OpenClaim := { program := "ytdhlfbipljelcaa", sum := "b32dbab65d7972e69988d3ef368612fa138d3030f82ad83ccfa254c2ddb15aea", func := "loop.example/g01182/laws.FnExactCirculantMatrix", spec := "fnExactCirculantMatrix", apart := false }
def FnExactCirculantMatrixSaid : Prop := fnExactCirculantMatrixRow.holds Try.pinned (OpenSpec.ofChange fnExactCirculantMatrixSpec)

/-- ITS FALSE NEIGHBOUR: 'it returns false'. Refute it at one input. -/
def fnExactCirculantMatrixWrong : ChangeSpec := { name := "fnExactCirculantMatrix", fn := fun _ => fun
  | [d] => { results := [.lit (.bool false)], args := [d] }
  | _ => none }
def FnExactCirculantMatrixWrongFalsely : Prop := fnExactCirculantMatrixRow.holds Try.pinned (OpenSpec.ofChange fnExactCirculantMatrixWrong)

/- THE SECOND FORM. 'bulk': how many values and letters a reading holds, each counted each time it is reached (what is shared counts as often as it is met; a slice's spare places count too). A statement '..UptoSaid' is the law's where the arguments, and the package variables that the reading takes, are together of bulk at most 1048576: NARROWER than '..Said'. Prove '..Said' where nothing that the law and all that it calls make is longer than what came in: it says more and counts as full. Else prove '..UptoSaid'. A law counts once. -/
mutual
def uptoBulk {H : Type} : DataW H → Nat
  | .lit (.string bytes) => bytes.length + 1
  | .lit _ => 1
  | .nil => 1
  | .ptr d => uptoBulk d + 1
  | .slice elems spare => uptoBulkAll elems + uptoBulkAll spare + 1
  | .agg parts => uptoBulkAll parts + 1
  | .iface _ d => uptoBulk d + 1
  | .map entries => uptoBulkEntries entries + 1
  | .held _ => 1
def uptoBulkAll {H : Type} : List (DataW H) → Nat
  | [] => 0
  | d :: r => uptoBulk d + uptoBulkAll r
def uptoBulkEntries {H : Type} : List (Lit × DataW H) → Nat
  | [] => 0
  | x :: r => uptoBulkEntry x + uptoBulkEntries r
def uptoBulkEntry {H : Type} : Lit × DataW H → Nat
  | (.string bytes, d) => bytes.length + uptoBulk d + 1
  | (_, d) => uptoBulk d + 1
 end
def uptoSmall : (H : Type) → List (DataW H) → Bool := fun _ ds => decide (uptoBulkAll ds ≤ 1048576)
def OpenSpec.upto (s : _root_.Go.ChangeSpec) : _root_.Go.OpenSpec := { _root_.Go.OpenSpec.ofChange s with cond := some uptoSmall }

/-- 'laws.FnExactUniformityOf', WHERE WHAT IT READS IS OF BULK AT MOST 1048576: true; the input reads as it did. -/
def fnExactUniformityOfUptoRow : OpenClaim := { program := "ytdhlfbipljelcaa", sum := "b32dbab65d7972e69988d3ef368612fa138d3030f82ad83ccfa254c2ddb15aea", func := "loop.example/g01182/laws.FnExactUniformityOf", spec := "fnExactUniformityOf", apart := false, narrowed := true }
def FnExactUniformityOfUptoSaid : Prop := fnExactUniformityOfUptoRow.holds Try.pinned (OpenSpec.upto fnExactUniformityOfSpec)

/-- 'laws.FnExactDifferencesOf', WHERE WHAT IT READS IS OF BULK AT MOST 1048576: true; the input reads as it did. -/
def fnExactDifferencesOfUptoRow : OpenClaim := { program := "ytdhlfbipljelcaa", sum := "b32dbab65d7972e69988d3ef368612fa138d3030f82ad83ccfa254c2ddb15aea", func := "loop.example/g01182/laws.FnExactDifferencesOf", spec := "fnExactDifferencesOf", apart := false, narrowed := true }
def FnExactDifferencesOfUptoSaid : Prop := fnExactDifferencesOfUptoRow.holds Try.pinned (OpenSpec.upto fnExactDifferencesOfSpec)

/-- 'laws.FnExactLinearityOf', WHERE WHAT IT READS IS OF BULK AT MOST 1048576: true; the input reads as it did. -/
def fnExactLinearityOfUptoRow : OpenClaim := { program := "ytdhlfbipljelcaa", sum := "b32dbab65d7972e69988d3ef368612fa138d3030f82ad83ccfa254c2ddb15aea", func := "loop.example/g01182/laws.FnExactLinearityOf", spec := "fnExactLinearityOf", apart := false, narrowed := true }
def FnExactLinearityOfUptoSaid : Prop := fnExactLinearityOfUptoRow.holds Try.pinned (OpenSpec.upto fnExactLinearityOfSpec)

/-- 'laws.FnExactFixedPointsOf', WHERE WHAT IT READS IS OF BULK AT MOST 1048576: true; the input reads as it did. -/
def fnExactFixedPointsOfUptoRow : OpenClaim := { program := "ytdhlfbipljelcaa", sum := "b32dbab65d7972e69988d3ef368612fa138d3030f82ad83ccfa254c2ddb15aea", func := "loop.example/g01182/laws.FnExactFixedPointsOf", spec := "fnExactFixedPointsOf", apart := false, narrowed := true }
def FnExactFixedPointsOfUptoSaid : Prop := fnExactFixedPointsOfUptoRow.holds Try.pinned (OpenSpec.upto fnExactFixedPointsOfSpec)

/-- 'laws.FnExactPowerOfBox', WHERE WHAT IT READS IS OF BULK AT MOST 1048576: true; the input reads as it did. -/
def fnExactPowerOfBoxUptoRow : OpenClaim := { program := "ytdhlfbipljelcaa", sum := "b32dbab65d7972e69988d3ef368612fa138d3030f82ad83ccfa254c2ddb15aea", func := "loop.example/g01182/laws.FnExactPowerOfBox", spec := "fnExactPowerOfBox", apart := false, narrowed := true }
def FnExactPowerOfBoxUptoSaid : Prop := fnExactPowerOfBoxUptoRow.holds Try.pinned (OpenSpec.upto fnExactPowerOfBoxSpec)

/-- 'laws.FnExactInversePlaces', WHERE WHAT IT READS IS OF BULK AT MOST 1048576: true; the input reads as it did. -/
def fnExactInversePlacesUptoRow : OpenClaim := { program := "ytdhlfbipljelcaa", sum := "b32dbab65d7972e69988d3ef368612fa138d3030f82ad83ccfa254c2ddb15aea", func := "loop.example/g01182/laws.FnExactInversePlaces", spec := "fnExactInversePlaces", inPlace := ["internal/bytealg.IndexByte"], apart := false, narrowed := true }
def FnExactInversePlacesUptoSaid : Prop := fnExactInversePlacesUptoRow.holds Try.pinned (OpenSpec.upto fnExactInversePlacesSpec)

/-- 'laws.FnExactComposePlaces', WHERE WHAT IT READS IS OF BULK AT MOST 1048576: true; the input reads as it did. -/
def fnExactComposePlacesUptoRow : OpenClaim := { program := "ytdhlfbipljelcaa", sum := "b32dbab65d7972e69988d3ef368612fa138d3030f82ad83ccfa254c2ddb15aea", func := "loop.example/g01182/laws.FnExactComposePlaces", spec := "fnExactComposePlaces", inPlace := ["internal/bytealg.IndexByte"], apart := false, narrowed := true }
def FnExactComposePlacesUptoSaid : Prop := fnExactComposePlacesUptoRow.holds Try.pinned (OpenSpec.upto fnExactComposePlacesSpec)

/-- 'laws.FnExactIsSpreading', WHERE WHAT IT READS IS OF BULK AT MOST 1048576: true; the input reads as it did. -/
def fnExactIsSpreadingUptoRow : OpenClaim := { program := "ytdhlfbipljelcaa", sum := "b32dbab65d7972e69988d3ef368612fa138d3030f82ad83ccfa254c2ddb15aea", func := "loop.example/g01182/laws.FnExactIsSpreading", spec := "fnExactIsSpreading", inPlace := ["internal/bytealg.IndexByte"], apart := false, narrowed := true }
def FnExactIsSpreadingUptoSaid : Prop := fnExactIsSpreadingUptoRow.holds Try.pinned (OpenSpec.upto fnExactIsSpreadingSpec)

/-- 'laws.FnExactMoveBlock', WHERE WHAT IT READS IS OF BULK AT MOST 1048576: true; the input reads as it did. -/
def fnExactMoveBlockUptoRow : OpenClaim := { program := "ytdhlfbipljelcaa", sum := "b32dbab65d7972e69988d3ef368612fa138d3030f82ad83ccfa254c2ddb15aea", func := "loop.example/g01182/laws.FnExactMoveBlock", spec := "fnExactMoveBlock", inPlace := ["internal/bytealg.IndexByte"], apart := false, narrowed := true }
def FnExactMoveBlockUptoSaid : Prop := fnExactMoveBlockUptoRow.holds Try.pinned (OpenSpec.upto fnExactMoveBlockSpec)

/-- 'laws.FnExactParseBox', WHERE WHAT IT READS IS OF BULK AT MOST 1048576: true; the input reads as it did. -/
def fnExactParseBoxUptoRow : OpenClaim := { program := "ytdhlfbipljelcaa", sum := "b32dbab65d7972e69988d3ef368612fa138d3030f82ad83ccfa254c2ddb15aea", func := "loop.example/g01182/laws.FnExactParseBox", spec := "fnExactParseBox", apart := false, narrowed := true }
def FnExactParseBoxUptoSaid : Prop := fnExactParseBoxUptoRow.holds Try.pinned (OpenSpec.upto fnExactParseBoxSpec)

/-- 'laws.FnExactRotationBox', WHERE WHAT IT READS IS OF BULK AT MOST 1048576: true; the input reads as it did. -/
def fnExactRotationBoxUptoRow : OpenClaim := { program := "ytdhlfbipljelcaa", sum := "b32dbab65d7972e69988d3ef368612fa138d3030f82ad83ccfa254c2ddb15aea", func := "loop.example/g01182/laws.FnExactRotationBox", spec := "fnExactRotationBox", apart := false, narrowed := true }
def FnExactRotationBoxUptoSaid : Prop := fnExactRotationBoxUptoRow.holds Try.pinned (OpenSpec.upto fnExactRotationBoxSpec)

/-- 'laws.FnExactCirculantMatrix', WHERE WHAT IT READS IS OF BULK AT MOST 1048576: true; the input reads as it did. -/
def fnExactCirculantMatrixUptoRow : OpenClaim := { program := "ytdhlfbipljelcaa", sum := "b32dbab65d7972e69988d3ef368612fa138d3030f82ad83ccfa254c2ddb15aea", func := "loop.example/g01182/laws.FnExactCirculantMatrix", spec := "fnExactCirculantMatrix", apart := false, narrowed := true }
def FnExactCirculantMatrixUptoSaid : Prop := fnExactCirculantMatrixUptoRow.holds Try.pinned (OpenSpec.upto fnExactCirculantMatrixSpec)

end Rows
end Go.Proofs.Ytdhlfbipljelcaa
