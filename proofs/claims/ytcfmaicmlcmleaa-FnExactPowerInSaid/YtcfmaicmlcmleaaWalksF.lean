/- The walks of laws on fields. No condition. -/
import Derived.Test.YtcfmaicmlcmleaaRows
import Derived.Test.YtcfmaicmlcmleaaPower
set_option linter.unusedVariables false
namespace Go.Proofs.Ytcfmaicmlcmleaa
open Go.RowKit Plain
set_option maxRecDepth 100000 in
set_option maxHeartbeats 800000 in
theorem fnExactIsField.walk (m : Int) (w : World) (lo0 : -9223372036854775808 ≤ m) (hi0 : m ≤ 9223372036854775807) :
    Calls Try.prog 3 #[.int .i64 m] w fun e w' => e = .returned (.bool true) ∧ Below w.heap.size w w' := by
  go_enter Try.func3, Try.ntmps3
  go_wp2_with (first | (go_at_call 15; refine (specIsField m _).mono ?_; rintro e wx ⟨rfl, rfl⟩) | (go_at_call 16; refine (implIsField m _).mono ?_; rintro e wx ⟨rfl, rfl⟩))
  go_ret
  exact ⟨rfl, Below.refl _ _⟩
set_option maxRecDepth 100000 in
set_option maxHeartbeats 800000 in
theorem fnExactTimesIn.walk (m : Int) (a : UInt8) (b : UInt8) (w : World) (lo0 : -9223372036854775808 ≤ m) (hi0 : m ≤ 9223372036854775807) :
    Calls Try.prog 4 #[.int .i64 m, .int .u8 (a.toNat : Int), .int .u8 (b.toNat : Int)] w fun e w' => e = .returned (.bool true) ∧ Below w.heap.size w w' := by
  go_enter Try.func4, Try.ntmps4
  go_wp2_with (first | (go_at_call 17; refine (specTimesIn m a.toNat b.toNat a.toNat_lt b.toNat_lt _).mono ?_; rintro e wx ⟨rfl, rfl⟩) | (go_at_call 18; refine (implTimesIn m a.toNat b.toNat a.toNat_lt b.toNat_lt _).mono ?_; rintro e wx ⟨rfl, rfl⟩))
  go_ret
  exact ⟨rfl, Below.refl _ _⟩
set_option maxRecDepth 100000 in
set_option maxHeartbeats 800000 in
theorem fnExactInverseIn.walk (m : Int) (a : UInt8) (w : World) (lo0 : -9223372036854775808 ≤ m) (hi0 : m ≤ 9223372036854775807) :
    Calls Try.prog 6 #[.int .i64 m, .int .u8 (a.toNat : Int)] w fun e w' => e = .returned (.bool true) ∧ Below w.heap.size w w' := by
  go_enter Try.func6, Try.ntmps6
  go_wp2_with (first | (go_at_call 21; refine (specInverseIn m a.toNat a.toNat_lt _).mono ?_; rintro e wx ⟨rfl, rfl⟩) | (go_at_call 22; refine (implInverseIn m a.toNat a.toNat_lt _).mono ?_; rintro e wx ⟨rfl, rfl⟩))
  go_ret
  exact ⟨rfl, Below.refl _ _⟩
set_option maxRecDepth 100000 in
set_option maxHeartbeats 800000 in
theorem fnExactRootIn.walk (m : Int) (a : UInt8) (w : World) (lo0 : -9223372036854775808 ≤ m) (hi0 : m ≤ 9223372036854775807) :
    Calls Try.prog 8 #[.int .i64 m, .int .u8 (a.toNat : Int)] w fun e w' => e = .returned (.bool true) ∧ Below w.heap.size w w' := by
  go_enter Try.func8, Try.ntmps8
  go_wp2_with (first | (go_at_call 25; refine (specRootIn m a.toNat a.toNat_lt _).mono ?_; rintro e wx ⟨rfl, rfl⟩) | (go_at_call 26; refine (implRootIn m a.toNat a.toNat_lt _).mono ?_; rintro e wx ⟨rfl, rfl⟩))
  go_ret
  exact ⟨rfl, Below.refl _ _⟩
set_option maxRecDepth 100000 in
set_option maxHeartbeats 800000 in
theorem fnExactTraceIn.walk (m : Int) (a : UInt8) (w : World) (lo0 : -9223372036854775808 ≤ m) (hi0 : m ≤ 9223372036854775807) :
    Calls Try.prog 7 #[.int .i64 m, .int .u8 (a.toNat : Int)] w fun e w' => e = .returned (.bool true) ∧ Below w.heap.size w w' := by
  go_enter Try.func7, Try.ntmps7
  go_wp2_with (first | (go_at_call 23; refine (specTraceIn m a.toNat a.toNat_lt _).mono ?_; rintro e wx ⟨rfl, rfl⟩) | (go_at_call 24; refine (implTraceIn m a.toNat a.toNat_lt _).mono ?_; rintro e wx ⟨rfl, rfl⟩))
  go_ret
  exact ⟨rfl, Below.refl _ _⟩
set_option maxRecDepth 100000 in
set_option maxHeartbeats 800000 in
theorem fnExactQuadraticIn.walk (m : Int) (a : UInt8) (w : World) (lo0 : -9223372036854775808 ≤ m) (hi0 : m ≤ 9223372036854775807) :
    Calls Try.prog 9 #[.int .i64 m, .int .u8 (a.toNat : Int)] w fun e w' => e = .returned (.bool true) ∧ Below w.heap.size w w' := by
  go_enter Try.func9, Try.ntmps9
  go_wp2_with (first | (go_at_call 27; refine (specQuadraticIn m a.toNat _).mono ?_; rintro e wx ⟨rfl, rfl⟩) | (go_at_call 28; refine (implQuadraticIn m a.toNat _).mono ?_; rintro e wx ⟨rfl, rfl⟩))
  go_ret
  exact ⟨rfl, Below.refl _ _⟩
set_option maxRecDepth 100000 in
set_option maxHeartbeats 800000 in
theorem fnExactPowerIn.walk (m : Int) (a : UInt8) (k : Int) (w : World) (lo0 : -9223372036854775808 ≤ m) (hi0 : m ≤ 9223372036854775807) (lo2 : -9223372036854775808 ≤ k) (hi2 : k ≤ 9223372036854775807) :
    Calls Try.prog 5 #[.int .i64 m, .int .u8 (a.toNat : Int), .int .i64 k] w fun e w' => e = .returned (.bool true) ∧ Below w.heap.size w w' := by
  go_enter Try.func5, Try.ntmps5
  go_wp2_with (first | (go_at_call 19; refine (specPowerIn m a.toNat k a.toNat_lt _).mono ?_; rintro e wx ⟨rfl, rfl⟩) | (go_at_call 20; refine (implPowerIn m a.toNat k a.toNat_lt _).mono ?_; rintro e wx ⟨rfl, rfl⟩))
  go_ret
  exact ⟨rfl, Below.refl _ _⟩
set_option maxRecDepth 100000 in
set_option maxHeartbeats 800000 in
theorem fnExactLogarithmIn.walk (m : Int) (g : UInt8) (a : UInt8) (w : World) (lo0 : -9223372036854775808 ≤ m) (hi0 : m ≤ 9223372036854775807) :
    Calls Try.prog 10 #[.int .i64 m, .int .u8 (g.toNat : Int), .int .u8 (a.toNat : Int)] w fun e w' => e = .returned (.bool true) ∧ Below w.heap.size w w' := by
  go_enter Try.func10, Try.ntmps10
  go_wp2_with (first | (go_at_call 29; refine (specLogarithmIn m g.toNat a.toNat g.toNat_lt _).mono ?_; rintro e wx ⟨rfl, rfl⟩) | (go_at_call 30; refine (implLogarithmIn m g.toNat a.toNat g.toNat_lt _).mono ?_; rintro e wx ⟨rfl, rfl⟩))
  go_ret
  exact ⟨rfl, Below.refl _ _⟩
end Go.Proofs.Ytcfmaicmlcmleaa
