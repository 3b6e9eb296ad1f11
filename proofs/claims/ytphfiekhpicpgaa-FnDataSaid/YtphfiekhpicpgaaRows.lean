/-
  No cell of these rows narrows 'for every input' (looked for: loops, veiled, ifaces, maps, wideKeys, modest, calm, conditions, laid).
  DERIVED. THE GIVEN ROWS OF THIS SEAT. 3 by the template 'for every input the law returns true; each argument reads behind the call as it read before'; 0 by the template 'total and deterministic' (their statements: YtphfiekhpicpgaaTotals.lean).
  GIVEN WITH THE SEED: the statements are not yours to turn. If you find one false, say at which input.
  Laid BY PROGRAM, IN A SANDBOX (cutbox-rows.mjs): the forced cells as the released guide's own fill.sh prints them over the translation d024bb4ab869a271… (all of the seat's roots in one cut). By AI agents, Wed Nov 11 2026. No macro, syntax, notation, axiom, sorry.
-/
import Derived.Test.YtphfiekhpicpgaaChecked
import GoSem.Claim
import GoSem.ClaimJoined
import GoSem.ClaimMapViews
import Derived.JoinedTies
import Derived.KernelRfl
namespace Go.Proofs.Ytphfiekhpicpgaa
/- THE CELL 'sum', in the pinned program and in every row, IS THE sha256 OF THE DUMP (.gsa) THAT YtphfiekhpicpgaaProg.lean LOADS. Nothing in Lean hashes anything: it is a label: what it is worth is what the hold of that sum in a sandbox is worth. -/
noncomputable def Try.pinned : Pinned := { name := "ytphfiekhpicpgaa", sum := "d024bb4ab869a271d8c5a993db9116cf554dfacf73dd74274ea0573d9e320a45", checked := Try.checked }
namespace Rows
def none {H : Type} : Left H := { results := [], args := [] }

/-- 'laws.FnBoxKinds': WHATEVER THE INPUT: true; the input reads as it did. -/
def fnBoxKindsSpec : ChangeSpec := { name := "fnBoxKinds", fn := fun _ => fun
  | [d] => { results := [.lit (.bool true)], args := [d] }
  | _ => none }
def fnBoxKindsRow : OpenClaim := { program := "ytphfiekhpicpgaa", sum := "d024bb4ab869a271d8c5a993db9116cf554dfacf73dd74274ea0573d9e320a45", func := "loop.example/g01182/laws.FnBoxKinds", spec := "fnBoxKinds", apart := false }
def FnBoxKindsSaid : Prop := fnBoxKindsRow.holds Try.pinned (OpenSpec.ofChange fnBoxKindsSpec)

/-- ITS FALSE NEIGHBOUR: 'it returns false'. Refute it at one input. -/
def fnBoxKindsWrong : ChangeSpec := { name := "fnBoxKinds", fn := fun _ => fun
  | [d] => { results := [.lit (.bool false)], args := [d] }
  | _ => none }
def FnBoxKindsWrongFalsely : Prop := fnBoxKindsRow.holds Try.pinned (OpenSpec.ofChange fnBoxKindsWrong)

/-- 'laws.FnData': WHATEVER THE INPUT: true; the input reads as it did. -/
def fnDataSpec : ChangeSpec := { name := "fnData", fn := fun _ => fun
  | [d] => { results := [.lit (.bool true)], args := [d] }
  | _ => none }
def fnDataRow : OpenClaim := { program := "ytphfiekhpicpgaa", sum := "d024bb4ab869a271d8c5a993db9116cf554dfacf73dd74274ea0573d9e320a45", func := "loop.example/g01182/laws.FnData", spec := "fnData", apart := false }
def FnDataSaid : Prop := fnDataRow.holds Try.pinned (OpenSpec.ofChange fnDataSpec)

/-- ITS FALSE NEIGHBOUR: 'it returns false'. Refute it at one input. -/
def fnDataWrong : ChangeSpec := { name := "fnData", fn := fun _ => fun
  | [d] => { results := [.lit (.bool false)], args := [d] }
  | _ => none }
def FnDataWrongFalsely : Prop := fnDataRow.holds Try.pinned (OpenSpec.ofChange fnDataWrong)

/-- 'laws.FnBoxTables': WHATEVER THE INPUT: true; the input reads as it did. -/
def fnBoxTablesSpec : ChangeSpec := { name := "fnBoxTables", fn := fun _ => fun
  | [d] => { results := [.lit (.bool true)], args := [d] }
  | _ => none }
def fnBoxTablesRow : OpenClaim := { program := "ytphfiekhpicpgaa", sum := "d024bb4ab869a271d8c5a993db9116cf554dfacf73dd74274ea0573d9e320a45", func := "loop.example/g01182/laws.FnBoxTables", spec := "fnBoxTables", apart := false }
def FnBoxTablesSaid : Prop := fnBoxTablesRow.holds Try.pinned (OpenSpec.ofChange fnBoxTablesSpec)

/-- ITS FALSE NEIGHBOUR: 'it returns false'. Refute it at one input. -/
def fnBoxTablesWrong : ChangeSpec := { name := "fnBoxTables", fn := fun _ => fun
  | [d] => { results := [.lit (.bool false)], args := [d] }
  | _ => none }
def FnBoxTablesWrongFalsely : Prop := fnBoxTablesRow.holds Try.pinned (OpenSpec.ofChange fnBoxTablesWrong)

/- THE SECOND FORM. 'bulk': how many values and letters a reading holds, each counted each time it is reached (what is shared counts as often as it is met; a slice's spare places count too). A statement '..UptoSaid' is the law's where the arguments, and the package variables that the reading takes, are together of bulk at most 1048576: NARROWER than '..Said'. Prove '..Said' where nothing that the law and all that it calls make is longer than what came in: it says more and counts as full. Else prove '..UptoSaid'. A law counts once. -/
mutual
def uptoBulk {H : Type} : DataW H → Nat
  | .lit (.string bytes) => bytes.length + 1
  | .lit _ => 1
  | .nil => 1
  | .ptr d => uptoBulk d + 1
  | .slice elems spare => uptoBulkAll elems + uptoBulkAll spare + 1
  | .agg parts => uptoBulkAll parts + 1
  | .iface _ d => uptoBulk d + 1
  | .map entries => uptoBulkEntries entries + 1
  | .held _ => 1
def uptoBulkAll {H : Type} : List (DataW H) → Nat
  | [] => 0
  | d :: r => uptoBulk d + uptoBulkAll r
def uptoBulkEntries {H : Type} : List (Lit × DataW H) → Nat
  | [] => 0
  | x :: r => uptoBulkEntry x + uptoBulkEntries r
def uptoBulkEntry {H : Type} : Lit × DataW H → Nat
  | (.string bytes, d) => bytes.length + uptoBulk d + 1
  | (_, d) => uptoBulk d + 1
 end
def uptoSmall : (H : Type) → List (DataW H) → Bool := fun _ ds => decide (uptoBulkAll ds ≤ 1048576)
def OpenSpec.upto (s : _root_.Go.ChangeSpec) : _root_.Go.OpenSpec := { _root_.Go.OpenSpec.ofChange s with cond := some uptoSmall }

/-- 'laws.FnBoxKinds', WHERE WHAT IT READS IS OF BULK AT MOST 1048576: true; the input reads as it did. -/
def fnBoxKindsUptoRow : OpenClaim := { program := "ytphfiekhpicpgaa", sum := "d024bb4ab869a271d8c5a993db9116cf554dfacf73dd74274ea0573d9e320a45", func := "loop.example/g01182/laws.FnBoxKinds", spec := "fnBoxKinds", apart := false, narrowed := true }
def FnBoxKindsUptoSaid : Prop := fnBoxKindsUptoRow.holds Try.pinned (OpenSpec.upto fnBoxKindsSpec)

/-- 'laws.FnData', WHERE WHAT IT READS IS OF BULK AT MOST 1048576: true; the input reads as it did. -/
def fnDataUptoRow : OpenClaim := { program := "ytphfiekhpicpgaa", sum := "d024bb4ab869a271d8c5a993db9116cf554dfacf73dd74274ea0573d9e320a45", func := "loop.example/g01182/laws.FnData", spec := "fnData", apart := false, narrowed := true }
def FnDataUptoSaid : Prop := fnDataUptoRow.holds Try.pinned (OpenSpec.upto fnDataSpec)

/-- 'laws.FnBoxTables', WHERE WHAT IT READS IS OF BULK AT MOST 1048576: true; the input reads as it did. -/
def fnBoxTablesUptoRow : OpenClaim := { program := "ytphfiekhpicpgaa", sum := "d024bb4ab869a271d8c5a993db9116cf554dfacf73dd74274ea0573d9e320a45", func := "loop.example/g01182/laws.FnBoxTables", spec := "fnBoxTables", apart := false, narrowed := true }
def FnBoxTablesUptoSaid : Prop := fnBoxTablesUptoRow.holds Try.pinned (OpenSpec.upto fnBoxTablesSpec)

end Rows
end Go.Proofs.Ytphfiekhpicpgaa
