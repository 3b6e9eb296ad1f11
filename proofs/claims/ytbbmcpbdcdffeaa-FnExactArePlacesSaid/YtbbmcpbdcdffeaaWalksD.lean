/- The walks of laws on places. No condition. -/
import Derived.Test.YtbbmcpbdcdffeaaLaws
import Derived.Test.YtbbmcpbdcdffeaaPlaces
set_option linter.unusedVariables false
namespace Go.Proofs.Ytbbmcpbdcdffeaa
open Go.RowKit Plain
set_option maxRecDepth 100000 in
set_option maxHeartbeats 800000 in
theorem fnExactArePlaces.walk (b : Nat → UInt8) (w : World) :
    Calls Try.prog 12 #[.agg (byteRow 16 b)] w fun e w' => e = .returned (.bool true) ∧ Below w.heap.size w w' := by
  go_enter Try.func12, Try.ntmps12
  have k0 := Lib.hid (Blk.new w 34 (byteRow 16 b))
  have l := Lib.hid ((Below.refl w.heap.size w).alloc (Nat.le_refl _) (.cells (byteRow 16 b) 34))
  go_wp2_with (refine wpList_loadH rfl _ _ rfl _ rfl (by assumption) Try.underlying34 rfl size34 (byteRow_size _ _) ?_)
  refine (toPlaces _ _).mono ?_
  rintro e wx ⟨rfl, hb⟩
  have k0 := carryB k0 hb
  have l := carryS l hb
  clear hb
  go_wp2_with (refine wpList_loadH rfl _ _ rfl _ rfl (by assumption) Try.underlying34 rfl size34 (byteRow_size _ _) ?_)
  refine (specArePlaces _ _).mono ?_
  rintro e wx ⟨rfl, hb⟩
  have k0 := carryB k0 hb
  have l := carryS l hb
  clear hb
  go_wp2_with (refine wpList_loadH rfl _ _ rfl _ rfl (by assumption) Try.underlying34 rfl size34 (byteRow_size _ _) ?_)
  refine (toPlaces _ _).mono ?_
  rintro e wx ⟨rfl, hb⟩
  have k0 := carryB k0 hb
  have l := carryS l hb
  clear hb
  go_wp2_with (refine wpList_loadH rfl _ _ rfl _ rfl (by assumption) Try.underlying34 rfl size34 (byteRow_size _ _) ?_)
  refine (implArePlaces _ _).mono ?_
  rintro e wx ⟨rfl, hb⟩
  have k0 := carryB k0 hb
  have l := carryS l hb
  clear hb
  go_wp2_with (refine wpList_loadH rfl _ _ rfl _ rfl (by assumption) Try.underlying34 rfl size34 (byteRow_size _ _) ?_)
  go_ret
  exact ⟨rfl, l.out⟩
end Go.Proofs.Ytbbmcpbdcdffeaa
