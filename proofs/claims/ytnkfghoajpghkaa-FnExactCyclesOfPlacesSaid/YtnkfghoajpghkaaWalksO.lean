/- The walk of the law on cycles of places. No condition. -/
import Derived.Test.YtnkfghoajpghkaaRows
import Derived.Test.YtnkfghoajpghkaaCycPl
set_option linter.unusedVariables false
namespace Go.Proofs.Ytnkfghoajpghkaa
open Go.RowKit Plain
theorem carrySS {w w' : World} {B n : Nat} {v : Value} {vals : Nat → Value} {len : Nat → Nat} {f : Nat → Nat → Int} (h : Hid (SS w B v n vals len f)) (hb : Below w.heap.size w w') : Hid (SS w' B v n vals len f) := h.out.below hb
set_option maxRecDepth 100000 in
set_option maxHeartbeats 1600000 in
theorem fnExactCyclesOfPlaces.walk (b : Nat → UInt8) (w : World) :
    Calls Try.prog 11 #[.agg (byteRow 16 b)] w fun e w' => e = .returned (.bool true) ∧ Below w.heap.size w w' := by
  have hlen := cpL_len b
  go_enter Try.func11, Try.ntmps11
  have k0 := Lib.hid (Blk.new w 63 (byteRow 16 b))
  have l := Lib.hid ((Below.refl w.heap.size w).alloc (Nat.le_refl _) (.cells (byteRow 16 b) 63))
  go_wp2_with (refine wpList_loadH rfl _ _ rfl _ rfl (by assumption) Try.underlying63 rfl size63 (byteRow_size _ _) ?_)
  refine (toPlaces _ _).mono ?_
  rintro e wx ⟨rfl, hb⟩
  have k0 := carryB k0 hb
  have l := carryS l hb
  clear hb
  go_wp2_with (refine wpList_loadH rfl _ _ rfl _ rfl (by assumption) Try.underlying63 rfl size63 (byteRow_size _ _) ?_)
  refine (specCyclesOfPlaces _ _).mono ?_
  rintro e wx ⟨vw, rfl, ⟨valsW, hr⟩, hb⟩
  have k0 := carryB k0 hb
  have l := carryS l hb
  have rw := Lib.hid hr
  clear hr hb
  go_wp2_with (refine wpList_loadH rfl _ _ rfl _ rfl (by assumption) Try.underlying63 rfl size63 (byteRow_size _ _) ?_)
  refine (toPlaces _ _).mono ?_
  rintro e wx ⟨rfl, hb⟩
  have k0 := carryB k0 hb
  have l := carryS l hb
  have rw := carrySS rw hb
  clear hb
  go_wp2_with (refine wpList_loadH rfl _ _ rfl _ rfl (by assumption) Try.underlying63 rfl size63 (byteRow_size _ _) ?_)
  obtain ⟨wi, rfl⟩ : ∃ wi : World, wi = wx := ⟨_, rfl⟩
  have zw := Lib.hid rw.out.ssz
  refine (implCyclesOfPlaces _ _).mono ?_
  rintro e wx ⟨vg, rfl, ⟨valsG, hr⟩, hb⟩
  have hk := k0.out.lt
  have hsz := hb.size
  have hlz := l.out.size
  have k0 := carryB k0 hb
  have l := carryS l hb
  have rw := carrySS rw hb
  have rg := Lib.hid hr
  clear hr hb
  go_wp2_with fail
  refine (eqInt64SS _ rg.out rw.out hlen).mono ?_
  rintro e wx ⟨rfl, hb⟩
  have hsz := Nat.le_trans hsz hb.size
  have k0 := carryB k0 hb
  have l := carryS l hb
  have rw := carrySS rw hb
  have rg := carrySS rg hb
  clear hb
  go_wp2_with fail
  refine (markInt64SS (q0 := 1) _ rg.out (by omega) hlen hsz).mono ?_
  rintro e wx ⟨rfl, hr, hb⟩
  have k0 := Lib.hid (k0.out.below hb hk)
  have l := Lib.hid (l.out.trans (hb.mono hlz))
  have rw := Lib.hid (rw.out.under zw.out hb)
  have rg := Lib.hid hr
  clear hr hb
  have hp0 := posT_le (q0 := 1) rg.out.full (cpL b).length (Nat.le_refl _)
  go_wp2_with fail
  refine (heldInt64SS (q0 := 1) _ rg.out (by omega) hlen).mono ?_
  rintro e wx ⟨rfl, hb⟩
  have k0 := carryB k0 hb
  have l := carryS l hb
  have rw := carrySS rw hb
  have rg := carrySS rg hb
  clear hb
  go_wp2_with (refine wpList_loadH rfl _ _ rfl _ rfl (by assumption) Try.underlying63 rfl size63 (byteRow_size _ _) ?_)
  refine (toPlaces _ _).mono ?_
  rintro e wx ⟨rfl, hb⟩
  have l := carryS l hb
  have rw := carrySS rw hb
  have rg := carrySS rg hb
  clear hb k0
  go_wp2_with fail
  refine (implCyclesOfPlaces _ _).mono ?_
  rintro e wx ⟨vh, rfl, ⟨valsH, hr⟩, hb⟩
  have l := carryS l hb
  have rw := carrySS rw hb
  have rg := carrySS rg hb
  have rh := Lib.hid hr
  clear hr hb
  go_wp2_with fail
  refine (eqInt64SS _ rh.out rw.out hlen).mono ?_
  rintro e wx ⟨rfl, hb⟩
  have l := carryS l hb
  have rg := carrySS rg hb
  clear hb rh rw
  go_wp2_with fail
  refine (heldInt64SS (q0 := 1) _ rg.out (by omega) hlen).mono ?_
  rintro e wx ⟨rfl, hb⟩
  have l := carryS l hb
  clear hb rg
  go_wp2_with fail
  go_ret
  exact ⟨rfl, l.out⟩
end Go.Proofs.Ytnkfghoajpghkaa
