/- The walks of laws on matrices. No condition. -/
import Derived.Test.YtbbmcpbdcdffeaaMat
set_option linter.unusedVariables false
namespace Go.Proofs.Ytbbmcpbdcdffeaa
open Go.RowKit
set_option maxRecDepth 100000 in
set_option maxHeartbeats 800000 in
theorem fnExactTransposeOf.walk (b : Nat → UInt8) (w : World) :
    Calls Try.prog 9 #[.agg (byteRow 16 b)] w fun e w' => e = .returned (.bool true) ∧ Below w.heap.size w w' := by
  go_enter Try.func9, Try.ntmps9
  have k0 := Lib.hid (Blk.new w 44 (byteRow 16 b))
  have l := Lib.hid ((Below.refl w.heap.size w).alloc (Nat.le_refl _) (.cells (byteRow 16 b) 44))
  go_wp2_with (refine wpList_loadH rfl _ _ rfl _ rfl (by assumption) Try.underlying44 rfl size44 (byteRow_size _ _) ?_)
  refine (toMatrix _ _).mono ?_
  rintro e wx ⟨rfl, hb⟩
  have k0 := carryB k0 hb
  have l := carryS l hb
  clear hb
  go_wp2_with (refine wpList_loadH rfl _ _ rfl _ rfl (by assumption) Try.underlying44 rfl size44 (byteRow_size _ _) ?_)
  refine (specTransposeOf _ _).mono ?_
  rintro e wx ⟨rfl, hb⟩
  have k0 := carryB k0 hb
  have l := carryS l hb
  clear hb
  go_wp2_with (first | (refine wpList_loadH rfl _ _ rfl _ rfl (by assumption) Try.underlying44 rfl size44 (byteRow_size _ _) ?_) | (refine wpList_storeNew rfl _ _ _ rfl _ rfl rfl zero16 size45 (byteRow_size _ _) (byteRow_size _ _) (byteRow_all _ _) ?_; intro wy kr hb; have k0 := carryB k0 hb; have l := carryS l hb; have kr := Lib.hid kr; clear hb))
  refine (toMatrix _ _).mono ?_
  rintro e wx ⟨rfl, hb⟩
  have k0 := carryB k0 hb
  have kr := carryB kr hb
  have l := carryS l hb
  clear hb
  go_wp2_with (refine wpList_loadH rfl _ _ rfl _ rfl (by assumption) Try.underlying44 rfl size44 (byteRow_size _ _) ?_)
  refine (implTransposeOf _ _).mono ?_
  rintro e wx ⟨rfl, hb⟩
  have k0 := carryB k0 hb
  have kr := carryB kr hb
  have l := carryS l hb
  clear hb
  go_wp2_with (first | (refine wpList_loadH rfl _ _ rfl _ rfl (by assumption) Try.underlying45 rfl size45 (byteRow_size _ _) ?_) | (refine wpList_storeNew rfl _ _ _ rfl _ rfl rfl zero16 size45 (byteRow_size _ _) (byteRow_size _ _) (byteRow_all _ _) ?_; intro wy ks hb; have k0 := carryB k0 hb; have kr := carryB kr hb; have l := carryS l hb; have ks := Lib.hid ks; clear hb))
  refine (eqMatrix _ _).mono ?_
  rintro e wx ⟨rfl, hb⟩
  have l := carryS l hb
  clear hb
  go_wp2_with fail
  go_ret
  exact ⟨rfl, l.out⟩
set_option maxRecDepth 100000 in
set_option maxHeartbeats 800000 in
theorem fnExactUnitMatrix.walk (w : World) :
    Calls Try.prog 8 #[] w fun e w' => e = .returned (.bool true) ∧ Below w.heap.size w w' := by
  have l := Lib.hid (Below.refl w.heap.size w)
  go_enter Try.func8, Try.ntmps8
  go_wp2_with fail
  refine (specUnitMatrix _).mono ?_
  rintro e wx ⟨rfl, hb⟩
  have l := carryS l hb
  clear hb
  go_wp2_with (refine wpList_storeNew rfl _ _ _ rfl _ rfl rfl zero16 size45 (byteRow_size _ _) (byteRow_size _ _) (byteRow_all _ _) ?_; intro wy kr hb; have l := carryS l hb; have kr := Lib.hid kr; clear hb)
  refine (implUnitMatrix _).mono ?_
  rintro e wx ⟨rfl, hb⟩
  have kr := carryB kr hb
  have l := carryS l hb
  clear hb
  go_wp2_with (first | (refine wpList_loadH rfl _ _ rfl _ rfl (by assumption) Try.underlying45 rfl size45 (byteRow_size _ _) ?_) | (refine wpList_storeNew rfl _ _ _ rfl _ rfl rfl zero16 size45 (byteRow_size _ _) (byteRow_size _ _) (byteRow_all _ _) ?_; intro wy ks hb; have kr := carryB kr hb; have l := carryS l hb; have ks := Lib.hid ks; clear hb))
  refine (eqMatrix _ _).mono ?_
  rintro e wx ⟨rfl, hb⟩
  have l := carryS l hb
  clear hb
  go_wp2_with fail
  go_ret
  exact ⟨rfl, l.out⟩
end Go.Proofs.Ytbbmcpbdcdffeaa
