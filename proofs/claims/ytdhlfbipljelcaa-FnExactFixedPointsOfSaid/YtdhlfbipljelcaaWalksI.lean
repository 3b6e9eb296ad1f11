/- The walks of laws on fixed points and differences. No condition. -/
import Derived.Test.YtdhlfbipljelcaaRows
import Derived.Test.YtdhlfbipljelcaaFixed
set_option linter.unusedVariables false
namespace Go.Proofs.Ytdhlfbipljelcaa
open Go.RowKit
set_option maxRecDepth 100000 in
set_option maxHeartbeats 1600000 in
theorem fnExactDifferencesOf.walk (b : Nat → UInt8) (u : UInt8) (w : World) :
    Calls Try.prog 4 #[.agg (byteRow 256 b), .int .u8 (u.toNat : Int)] w fun e w' => e = .returned (.bool true) ∧ Below w.heap.size w w' := by
  go_enter Try.func4, Try.ntmps4
  have k0 := Lib.hid (Blk.new w 22 (byteRow 256 b))
  have l := Lib.hid ((Below.refl w.heap.size w).alloc (Nat.le_refl _) (.cells (byteRow 256 b) 22))
  go_wp2_with (refine wpList_loadH rfl _ _ rfl _ rfl (by assumption) Try.underlying22 rfl size22 (byteRow_size _ _) ?_)
  refine (toBox _ _).mono ?_
  rintro e wx ⟨rfl, hb⟩
  have k0 := carryB k0 hb
  have l := carryS l hb
  clear hb
  go_wp2_with (refine wpList_loadH rfl _ _ rfl _ rfl (by assumption) Try.underlying22 rfl size22 (byteRow_size _ _) ?_)
  refine (specDifferencesOf _ _ _).mono ?_
  rintro e wx ⟨vw, rfl, hr, hb⟩
  have hr := hr.mono (show w.heap.size + 1 ≤ _ from by have := k0.out.lt; omega)
  have k0 := carryB k0 hb
  have l := carryS l hb
  have rw := Lib.hid hr
  clear hr hb
  go_wp2_with (refine wpList_loadH rfl _ _ rfl _ rfl (by assumption) Try.underlying22 rfl size22 (byteRow_size _ _) ?_)
  refine (toBox _ _).mono ?_
  rintro e wx ⟨rfl, hb⟩
  have k0 := carryB k0 hb
  have l := carryS l hb
  have rw := carryR rw hb
  clear hb
  go_wp2_with (refine wpList_loadH rfl _ _ rfl _ rfl (by assumption) Try.underlying22 rfl size22 (byteRow_size _ _) ?_)
  refine (implDifferencesOf _ _ _).mono ?_
  rintro e wx ⟨vg, rfl, hr, hb⟩
  have ne := Lib.hid (rows_apart rw.out hr (by omega))
  have hr := hr.mono (show w.heap.size + 1 ≤ _ from by have := k0.out.lt; omega)
  have k0 := carryB k0 hb
  have l := carryS l hb
  have rw := carryR rw hb
  have rg := Lib.hid hr
  clear hr hb
  go_wp2_with (refine wpList_loadH rfl _ _ rfl _ rfl (by assumption) Try.underlying22 rfl size22 (byteRow_size _ _) ?_)
  refine (eqInt64S _ rg.out rw.out).mono ?_
  rintro e wx ⟨rfl, hb⟩
  have k0 := carryB k0 hb
  have l := carryS l hb
  have rw := carryR rw hb
  have rg := carryR rg hb
  clear hb
  go_wp2_with (refine wpList_loadH rfl _ _ rfl _ rfl (by assumption) Try.underlying22 rfl size22 (byteRow_size _ _) ?_)
  refine (markInt64S (q0 := 1) _ rg.out (by omega) (by omega)).mono ?_
  rintro e wx ⟨rfl, hr, hg⟩
  have k0 := Lib.hid (k0.out.grown hg (fun hq => by have := (hr.lt _ hq.symm).1; omega))
  have l := Lib.hid (below_grown l.out hg (by have := l.out.size; omega) (fun q hq => by have := (hr.lt q hq).1; omega))
  have rw := Lib.hid (rw.out.kept hg ne.out)
  have rg := Lib.hid hr
  clear hr hg
  go_wp2_with (refine wpList_loadH rfl _ _ rfl _ rfl (by assumption) Try.underlying22 rfl size22 (byteRow_size _ _) ?_)
  refine (heldInt64S (q0 := 1) _ rg.out (by omega) (by omega)).mono ?_
  rintro e wx ⟨rfl, hb⟩
  have k0 := carryB k0 hb
  have l := carryS l hb
  have rw := carryR rw hb
  have rg := carryR rg hb
  clear hb
  go_wp2_with (refine wpList_loadH rfl _ _ rfl _ rfl (by assumption) Try.underlying22 rfl size22 (byteRow_size _ _) ?_)
  refine (toBox _ _).mono ?_
  rintro e wx ⟨rfl, hb⟩
  have k0 := carryB k0 hb
  have l := carryS l hb
  have rw := carryR rw hb
  have rg := carryR rg hb
  clear hb
  go_wp2_with (refine wpList_loadH rfl _ _ rfl _ rfl (by assumption) Try.underlying22 rfl size22 (byteRow_size _ _) ?_)
  refine (implDifferencesOf _ _ _).mono ?_
  rintro e wx ⟨vh, rfl, hr, hb⟩
  have hr := hr.mono (show w.heap.size + 1 ≤ _ from by have := k0.out.lt; omega)
  have k0 := carryB k0 hb
  have l := carryS l hb
  have rw := carryR rw hb
  have rg := carryR rg hb
  have rh := Lib.hid hr
  clear hr hb
  go_wp2_with (refine wpList_loadH rfl _ _ rfl _ rfl (by assumption) Try.underlying22 rfl size22 (byteRow_size _ _) ?_)
  refine (eqInt64S _ rh.out rw.out).mono ?_
  rintro e wx ⟨rfl, hb⟩
  have k0 := carryB k0 hb
  have l := carryS l hb
  have rw := carryR rw hb
  have rg := carryR rg hb
  clear hb
  go_wp2_with (refine wpList_loadH rfl _ _ rfl _ rfl (by assumption) Try.underlying22 rfl size22 (byteRow_size _ _) ?_)
  refine (heldInt64S (q0 := 1) _ rg.out (by omega) (by omega)).mono ?_
  rintro e wx ⟨rfl, hb⟩
  have k0 := carryB k0 hb
  have l := carryS l hb
  clear hb
  go_wp2_with (refine wpList_loadH rfl _ _ rfl _ rfl (by assumption) Try.underlying22 rfl size22 (byteRow_size _ _) ?_)
  go_ret
  exact ⟨rfl, l.out⟩
set_option maxRecDepth 100000 in
set_option maxHeartbeats 1600000 in
theorem fnExactFixedPointsOf.walk (b : Nat → UInt8) (w : World) :
    Calls Try.prog 6 #[.agg (byteRow 256 b)] w fun e w' => e = .returned (.bool true) ∧ Below w.heap.size w w' := by
  go_enter Try.func6, Try.ntmps6
  have k0 := Lib.hid (Blk.new w 22 (byteRow 256 b))
  have l := Lib.hid ((Below.refl w.heap.size w).alloc (Nat.le_refl _) (.cells (byteRow 256 b) 22))
  go_wp2_with (refine wpList_loadH rfl _ _ rfl _ rfl (by assumption) Try.underlying22 rfl size22 (byteRow_size _ _) ?_)
  refine (toBox _ _).mono ?_
  rintro e wx ⟨rfl, hb⟩
  have k0 := carryB k0 hb
  have l := carryS l hb
  clear hb
  go_wp2_with (refine wpList_loadH rfl _ _ rfl _ rfl (by assumption) Try.underlying22 rfl size22 (byteRow_size _ _) ?_)
  refine (specFixedRow _ _).mono ?_
  rintro e wx ⟨vw, rfl, hr, hb⟩
  have hr := hr.mono (show w.heap.size + 1 ≤ _ from by have := k0.out.lt; omega)
  have k0 := carryB k0 hb
  have l := carryS l hb
  have rw := Lib.hid hr
  clear hr hb
  go_wp2_with (refine wpList_loadH rfl _ _ rfl _ rfl (by assumption) Try.underlying22 rfl size22 (byteRow_size _ _) ?_)
  refine (toBox _ _).mono ?_
  rintro e wx ⟨rfl, hb⟩
  have k0 := carryB k0 hb
  have l := carryS l hb
  have rw := carryR rw hb
  clear hb
  go_wp2_with (refine wpList_loadH rfl _ _ rfl _ rfl (by assumption) Try.underlying22 rfl size22 (byteRow_size _ _) ?_)
  refine (implFixedRow _ _).mono ?_
  rintro e wx ⟨vg, rfl, hr, hb⟩
  have ne := Lib.hid (rows_apart rw.out hr (by omega))
  have hr := hr.mono (show w.heap.size + 1 ≤ _ from by have := k0.out.lt; omega)
  have k0 := carryB k0 hb
  have l := carryS l hb
  have rw := carryR rw hb
  have rg := Lib.hid hr
  clear hr hb
  go_wp2_with (refine wpList_loadH rfl _ _ rfl _ rfl (by assumption) Try.underlying22 rfl size22 (byteRow_size _ _) ?_)
  refine (eqInt64S _ rg.out rw.out).mono ?_
  rintro e wx ⟨rfl, hb⟩
  have k0 := carryB k0 hb
  have l := carryS l hb
  have rw := carryR rw hb
  have rg := carryR rg hb
  clear hb
  go_wp2_with (refine wpList_loadH rfl _ _ rfl _ rfl (by assumption) Try.underlying22 rfl size22 (byteRow_size _ _) ?_)
  refine (markInt64S (q0 := 1) _ rg.out (by omega) (by have := fixTo_len b 256; omega)).mono ?_
  rintro e wx ⟨rfl, hr, hg⟩
  have k0 := Lib.hid (k0.out.grown hg (fun hq => by have := (hr.lt _ hq.symm).1; omega))
  have l := Lib.hid (below_grown l.out hg (by have := l.out.size; omega) (fun q hq => by have := (hr.lt q hq).1; omega))
  have rw := Lib.hid (rw.out.kept hg ne.out)
  have rg := Lib.hid hr
  clear hr hg
  go_wp2_with (refine wpList_loadH rfl _ _ rfl _ rfl (by assumption) Try.underlying22 rfl size22 (byteRow_size _ _) ?_)
  refine (heldInt64S (q0 := 1) _ rg.out (by omega) (by have := fixTo_len b 256; omega)).mono ?_
  rintro e wx ⟨rfl, hb⟩
  have k0 := carryB k0 hb
  have l := carryS l hb
  have rw := carryR rw hb
  have rg := carryR rg hb
  clear hb
  go_wp2_with (refine wpList_loadH rfl _ _ rfl _ rfl (by assumption) Try.underlying22 rfl size22 (byteRow_size _ _) ?_)
  refine (toBox _ _).mono ?_
  rintro e wx ⟨rfl, hb⟩
  have k0 := carryB k0 hb
  have l := carryS l hb
  have rw := carryR rw hb
  have rg := carryR rg hb
  clear hb
  go_wp2_with (refine wpList_loadH rfl _ _ rfl _ rfl (by assumption) Try.underlying22 rfl size22 (byteRow_size _ _) ?_)
  refine (implFixedRow _ _).mono ?_
  rintro e wx ⟨vh, rfl, hr, hb⟩
  have hr := hr.mono (show w.heap.size + 1 ≤ _ from by have := k0.out.lt; omega)
  have k0 := carryB k0 hb
  have l := carryS l hb
  have rw := carryR rw hb
  have rg := carryR rg hb
  have rh := Lib.hid hr
  clear hr hb
  go_wp2_with (refine wpList_loadH rfl _ _ rfl _ rfl (by assumption) Try.underlying22 rfl size22 (byteRow_size _ _) ?_)
  refine (eqInt64S _ rh.out rw.out).mono ?_
  rintro e wx ⟨rfl, hb⟩
  have k0 := carryB k0 hb
  have l := carryS l hb
  have rw := carryR rw hb
  have rg := carryR rg hb
  clear hb
  go_wp2_with (refine wpList_loadH rfl _ _ rfl _ rfl (by assumption) Try.underlying22 rfl size22 (byteRow_size _ _) ?_)
  refine (heldInt64S (q0 := 1) _ rg.out (by omega) (by have := fixTo_len b 256; omega)).mono ?_
  rintro e wx ⟨rfl, hb⟩
  have k0 := carryB k0 hb
  have l := carryS l hb
  clear hb
  go_wp2_with (refine wpList_loadH rfl _ _ rfl _ rfl (by assumption) Try.underlying22 rfl size22 (byteRow_size _ _) ?_)
  go_ret
  exact ⟨rfl, l.out⟩
end Go.Proofs.Ytdhlfbipljelcaa
