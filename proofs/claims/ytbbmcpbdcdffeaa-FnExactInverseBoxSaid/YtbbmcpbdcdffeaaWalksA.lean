/- The walks of some laws. No condition. -/
import Derived.Test.YtbbmcpbdcdffeaaLaws
import Derived.Test.YtbbmcpbdcdffeaaPerm
import Derived.Test.YtbbmcpbdcdffeaaBox
set_option linter.unusedVariables false
namespace Go.Proofs.Ytbbmcpbdcdffeaa
open Go.RowKit Plain
set_option maxRecDepth 100000 in
set_option maxHeartbeats 800000 in
theorem fnExactIsPermutation.walk (b : Nat → UInt8) (w : World) :
    Calls Try.prog 11 #[.agg (byteRow 256 b)] w fun e w' => e = .returned (.bool true) ∧ Below w.heap.size w w' := by
  go_enter Try.func11, Try.ntmps11
  have k0 := Lib.hid (Blk.new w 23 (byteRow 256 b))
  have l := Lib.hid ((Below.refl w.heap.size w).alloc (Nat.le_refl _) (.cells (byteRow 256 b) 23))
  go_wp2_with (refine wpList_loadH rfl _ _ rfl _ rfl (by assumption) Try.underlying23 rfl size23 (byteRow_size _ _) ?_)
  refine (toBox _ _).mono ?_
  rintro e wx ⟨rfl, hb⟩
  have k0 := carryB k0 hb
  have l := carryS l hb
  clear hb
  go_wp2_with (refine wpList_loadH rfl _ _ rfl _ rfl (by assumption) Try.underlying23 rfl size23 (byteRow_size _ _) ?_)
  refine (specIsPermutation _ _).mono ?_
  rintro e wx ⟨rfl, hb⟩
  have k0 := carryB k0 hb
  have l := carryS l hb
  clear hb
  go_wp2_with (refine wpList_loadH rfl _ _ rfl _ rfl (by assumption) Try.underlying23 rfl size23 (byteRow_size _ _) ?_)
  refine (toBox _ _).mono ?_
  rintro e wx ⟨rfl, hb⟩
  have k0 := carryB k0 hb
  have l := carryS l hb
  clear hb
  go_wp2_with (refine wpList_loadH rfl _ _ rfl _ rfl (by assumption) Try.underlying23 rfl size23 (byteRow_size _ _) ?_)
  refine (implIsPermutation _ _).mono ?_
  rintro e wx ⟨rfl, hb⟩
  have k0 := carryB k0 hb
  have l := carryS l hb
  clear hb
  go_wp2_with (refine wpList_loadH rfl _ _ rfl _ rfl (by assumption) Try.underlying23 rfl size23 (byteRow_size _ _) ?_)
  go_ret
  exact ⟨rfl, l.out⟩
set_option maxRecDepth 100000 in
set_option maxHeartbeats 800000 in
theorem fnExactInverseBox.walk (b : Nat → UInt8) (w : World) :
    Calls Try.prog 14 #[.agg (byteRow 256 b)] w fun e w' => e = .returned (.bool true) ∧ Below w.heap.size w w' := by
  go_enter Try.func14, Try.ntmps14
  have k0 := Lib.hid (Blk.new w 23 (byteRow 256 b))
  have l := Lib.hid ((Below.refl w.heap.size w).alloc (Nat.le_refl _) (.cells (byteRow 256 b) 23))
  go_wp2_with (refine wpList_loadH rfl _ _ rfl _ rfl (by assumption) Try.underlying23 rfl size23 (byteRow_size _ _) ?_)
  refine (toBox _ _).mono ?_
  rintro e wx ⟨rfl, hb⟩
  have k0 := carryB k0 hb
  have l := carryS l hb
  clear hb
  go_wp2_with (refine wpList_loadH rfl _ _ rfl _ rfl (by assumption) Try.underlying23 rfl size23 (byteRow_size _ _) ?_)
  refine (specInverseBox _ _).mono ?_
  rintro e wx ⟨rfl, hb⟩
  have k0 := carryB k0 hb
  have l := carryS l hb
  clear hb
  go_wp2_with (first | (refine wpList_loadH rfl _ _ rfl _ rfl (by assumption) Try.underlying23 rfl size23 (byteRow_size _ _) ?_) | (refine wpList_storeNew rfl _ _ _ rfl _ rfl rfl zeroBox size25 (byteRow_size _ _) (byteRow_size _ _) (byteRow_all _ _) ?_; intro wy kr hb; have k0 := carryB k0 hb; have l := carryS l hb; have kr := Lib.hid kr; clear hb))
  refine (toBox _ _).mono ?_
  rintro e wx ⟨rfl, hb⟩
  have k0 := carryB k0 hb
  have kr := carryB kr hb
  have l := carryS l hb
  clear hb
  go_wp2_with (refine wpList_loadH rfl _ _ rfl _ rfl (by assumption) Try.underlying23 rfl size23 (byteRow_size _ _) ?_)
  refine (implInverseBox _ _).mono ?_
  rintro e wx ⟨rfl, hb⟩
  have k0 := carryB k0 hb
  have kr := carryB kr hb
  have l := carryS l hb
  clear hb
  go_wp2_with (first | (refine wpList_loadH rfl _ _ rfl _ rfl (by assumption) Try.underlying25 rfl size25 (byteRow_size _ _) ?_) | (refine wpList_storeNew rfl _ _ _ rfl _ rfl rfl zeroBox size25 (byteRow_size _ _) (byteRow_size _ _) (byteRow_all _ _) ?_; intro wy ks hb; have k0 := carryB k0 hb; have kr := carryB kr hb; have l := carryS l hb; have ks := Lib.hid ks; clear hb))
  refine (eqBox _ _).mono ?_
  rintro e wx ⟨rfl, hb⟩
  have l := carryS l hb
  clear hb
  go_wp2_with fail
  go_ret
  exact ⟨rfl, l.out⟩
end Go.Proofs.Ytbbmcpbdcdffeaa
