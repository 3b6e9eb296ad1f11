/- Contracts: hex texts of bytes and of boxes, by the program and by the reference, and the walks of their laws. No condition. -/
import Derived.Test.YtnkfghoajpghkaaRows
import Derived.Test.YtnkfghoajpghkaaLaws
import Derived.Test.YtnkfghoajpghkaaHex
import Derived.Test.YtnkfghoajpghkaaSliIn
set_option linter.unusedVariables false
namespace Go.Proofs.Ytnkfghoajpghkaa
open Go.RowKit Plain
def hexV (n : Nat) (b : Nat → UInt8) : ByteArray := if n ≤ 2000 then hexS b n else ⟨#[]⟩
def hexK (n : Nat) : Int := if n ≤ 2000 then 0 else 2
theorem ret_pairH {a b : ByteArray} {n m : Int} (h : a = b) (h2 : n = m) : Ending.returned (.tuple #[.string a, .int .i64 n]) = .returned (.tuple #[.string b, .int .i64 m]) := by rw [h, h2]
theorem isData (a : Option Addr) (n cap : Nat) (w : World) :
    Calls Try.prog 67 #[.slice a n cap] w fun e w' => e = .returned (.bool (decide ((n : Int) ≤ 2000))) ∧ w' = w := by
  go_enter Try.func67, Try.ntmps67
  go_wp2
  go_ret
  exact ⟨rfl, rfl⟩
end Go.Proofs.Ytnkfghoajpghkaa
