/- The walks of laws on orders. No condition. -/
import Derived.Test.YtcfmaicmlcmleaaRows
import Derived.Test.YtcfmaicmlcmleaaOrder
set_option linter.unusedVariables false
namespace Go.Proofs.Ytcfmaicmlcmleaa
open Go.RowKit Plain
set_option maxRecDepth 100000 in
set_option maxHeartbeats 800000 in
theorem fnExactOrderIn.walk (m : Int) (a : UInt8) (w : World) (lo0 : -9223372036854775808 ≤ m) (hi0 : m ≤ 9223372036854775807) :
    Calls Try.prog 11 #[.int .i64 m, .int .u8 (a.toNat : Int)] w fun e w' => e = .returned (.bool true) ∧ Below w.heap.size w w' := by
  go_enter Try.func11, Try.ntmps11
  go_wp2_with (first | (go_at_call 31; refine (specOrderIn m a.toNat a.toNat_lt _).mono ?_; rintro e wx ⟨rfl, rfl⟩) | (go_at_call 32; refine (implOrderIn m a.toNat a.toNat_lt _).mono ?_; rintro e wx ⟨rfl, rfl⟩))
  go_ret
  exact ⟨rfl, Below.refl _ _⟩
set_option maxRecDepth 100000 in
set_option maxHeartbeats 800000 in
theorem fnExactLeastGenerator.walk (m : Int) (w : World) (lo0 : -9223372036854775808 ≤ m) (hi0 : m ≤ 9223372036854775807) :
    Calls Try.prog 12 #[.int .i64 m] w fun e w' => e = .returned (.bool true) ∧ Below w.heap.size w w' := by
  go_enter Try.func12, Try.ntmps12
  go_wp2_with (first | (go_at_call 33; refine (specLeastGenerator m _).mono ?_; rintro e wx ⟨rfl, rfl⟩) | (go_at_call 34; refine (implLeastGenerator m _).mono ?_; rintro e wx ⟨rfl, rfl⟩))
  go_ret
  exact ⟨rfl, Below.refl _ _⟩
end Go.Proofs.Ytcfmaicmlcmleaa
