/- The walks of laws on degrees and biases. No condition. -/
import Derived.Test.YtbbmcpbdcdffeaaLaws
import Derived.Test.YtbbmcpbdcdffeaaDeg
import Derived.Test.YtbbmcpbdcdffeaaBias
set_option linter.unusedVariables false
namespace Go.Proofs.Ytbbmcpbdcdffeaa
open Go.RowKit Plain
set_option maxRecDepth 100000 in
set_option maxHeartbeats 800000 in
theorem fnExactDegreeOf.walk (b : Nat → UInt8) (w : World) :
    Calls Try.prog 13 #[.agg (byteRow 256 b)] w fun e w' => e = .returned (.bool true) ∧ Below w.heap.size w w' := by
  go_enter Try.func13, Try.ntmps13
  have k0 := Lib.hid (Blk.new w 23 (byteRow 256 b))
  have l := Lib.hid ((Below.refl w.heap.size w).alloc (Nat.le_refl _) (.cells (byteRow 256 b) 23))
  go_wp2_with (refine wpList_loadH rfl _ _ rfl _ rfl (by assumption) Try.underlying23 rfl size23 (byteRow_size _ _) ?_)
  refine (toBox _ _).mono ?_
  rintro e wx ⟨rfl, hb⟩
  have k0 := carryB k0 hb
  have l := carryS l hb
  clear hb
  go_wp2_with (refine wpList_loadH rfl _ _ rfl _ rfl (by assumption) Try.underlying23 rfl size23 (byteRow_size _ _) ?_)
  refine (specDegreeOf _ _).mono ?_
  rintro e wx ⟨rfl, hb⟩
  have k0 := carryB k0 hb
  have l := carryS l hb
  clear hb
  go_wp2_with (refine wpList_loadH rfl _ _ rfl _ rfl (by assumption) Try.underlying23 rfl size23 (byteRow_size _ _) ?_)
  refine (toBox _ _).mono ?_
  rintro e wx ⟨rfl, hb⟩
  have k0 := carryB k0 hb
  have l := carryS l hb
  clear hb
  go_wp2_with (refine wpList_loadH rfl _ _ rfl _ rfl (by assumption) Try.underlying23 rfl size23 (byteRow_size _ _) ?_)
  refine (implDegreeOf _ _).mono ?_
  rintro e wx ⟨rfl, hb⟩
  have k0 := carryB k0 hb
  have l := carryS l hb
  clear hb
  go_wp2_with (refine wpList_loadH rfl _ _ rfl _ rfl (by assumption) Try.underlying23 rfl size23 (byteRow_size _ _) ?_)
  go_ret
  exact ⟨rfl, l.out⟩
set_option maxRecDepth 100000 in
set_option maxHeartbeats 800000 in
theorem fnExactBiasOf.walk (b : Nat → UInt8) (u : UInt8) (v : UInt8) (w : World) :
    Calls Try.prog 10 #[.agg (byteRow 256 b), .int .u8 (u.toNat : Int), .int .u8 (v.toNat : Int)] w fun e w' => e = .returned (.bool true) ∧ Below w.heap.size w w' := by
  go_enter Try.func10, Try.ntmps10
  have k0 := Lib.hid (Blk.new w 23 (byteRow 256 b))
  have l := Lib.hid ((Below.refl w.heap.size w).alloc (Nat.le_refl _) (.cells (byteRow 256 b) 23))
  go_wp2_with (refine wpList_loadH rfl _ _ rfl _ rfl (by assumption) Try.underlying23 rfl size23 (byteRow_size _ _) ?_)
  refine (toBox _ _).mono ?_
  rintro e wx ⟨rfl, hb⟩
  have k0 := carryB k0 hb
  have l := carryS l hb
  clear hb
  go_wp2_with (refine wpList_loadH rfl _ _ rfl _ rfl (by assumption) Try.underlying23 rfl size23 (byteRow_size _ _) ?_)
  refine (specBiasOf _ _ _ _).mono ?_
  rintro e wx ⟨rfl, hb⟩
  have k0 := carryB k0 hb
  have l := carryS l hb
  clear hb
  go_wp2_with (refine wpList_loadH rfl _ _ rfl _ rfl (by assumption) Try.underlying23 rfl size23 (byteRow_size _ _) ?_)
  refine (toBox _ _).mono ?_
  rintro e wx ⟨rfl, hb⟩
  have k0 := carryB k0 hb
  have l := carryS l hb
  clear hb
  go_wp2_with (refine wpList_loadH rfl _ _ rfl _ rfl (by assumption) Try.underlying23 rfl size23 (byteRow_size _ _) ?_)
  refine (implBiasOf _ _ _ _).mono ?_
  rintro e wx ⟨rfl, hb⟩
  have k0 := carryB k0 hb
  have l := carryS l hb
  clear hb
  go_wp2_with (refine wpList_loadH rfl _ _ rfl _ rfl (by assumption) Try.underlying23 rfl size23 (byteRow_size _ _) ?_)
  go_ret
  exact ⟨rfl, l.out⟩
end Go.Proofs.Ytbbmcpbdcdffeaa
