/- Contracts: hex texts of bytes and of boxes, by the program and by the reference, and the walks of their laws. No condition. -/
import Derived.Test.YtbbmcpbdcdffeaaRows
import Derived.Test.YtbbmcpbdcdffeaaLaws
import Derived.Test.YtbbmcpbdcdffeaaHex
import Derived.Test.YtbbmcpbdcdffeaaSliIn
set_option linter.unusedVariables false
namespace Go.Proofs.Ytbbmcpbdcdffeaa
open Go.RowKit Plain
def hexV (n : Nat) (b : Nat → UInt8) : ByteArray := if n ≤ 2000 then hexS b n else ⟨#[]⟩
def hexK (n : Nat) : Int := if n ≤ 2000 then 0 else 2
theorem ret_pairH {a b : ByteArray} {n m : Int} (h : a = b) (h2 : n = m) : Ending.returned (.tuple #[.string a, .int .i64 n]) = .returned (.tuple #[.string b, .int .i64 m]) := by rw [h, h2]
theorem isData (a : Option Addr) (n cap : Nat) (w : World) :
    Calls Try.prog 48 #[.slice a n cap] w fun e w' => e = .returned (.bool (decide ((n : Int) ≤ 2000))) ∧ w' = w := by
  go_enter Try.func48, Try.ntmps48
  go_wp2
  go_ret
  exact ⟨rfl, rfl⟩
set_option maxRecDepth 100000 in
theorem specHexOf {B n : Nat} {v : Value} {b : Nat → UInt8} (w : World) (hrow : RowF w B 5 v n (byt b)) :
    Calls Try.prog 18 #[v] w fun e w' => e = .returned (.tuple #[.string (hexV n b), .int .i64 (hexK n)]) ∧ Below w.heap.size w w' := by
  obtain ⟨a, cap, rfl, _, _, _⟩ := hrow.form
  have hs := hrow.byteS
  clear hrow
  by_cases hn : n ≤ 2000
  · have hv : hexV n b = hexS b n := by unfold hexV; rw [if_pos hn]
    have hk : hexK n = 0 := by unfold hexK; rw [if_pos hn]
    have hni : ¬ (2000 : Int) < (n : Int) := by omega
    have C := Lib.hid (l01Hex w hs (by omega))
    have Hv := Lib.hid hv; clear hv; have Hk := Lib.hid hk; clear hk
    clear hs
    go_enter Try.func18, Try.ntmps18
    go_wp2_with fail
    refine C.out.mono ?_
    rintro e wx ⟨rfl, hb⟩
    have HB := Lib.hid hb
    clear hb
    go_wp2_with fail
    go_ret2
    exact ⟨ret_pairH Hv.out.symm Hk.out.symm, HB.out⟩
  · have hv : hexV n b = ⟨#[]⟩ := by unfold hexV; rw [if_neg hn]
    have hk : hexK n = 2 := by unfold hexK; rw [if_neg hn]
    have hni : (2000 : Int) < (n : Int) := by omega
    have Hv := Lib.hid hv; clear hv; have Hk := Lib.hid hk; clear hk
    clear hs
    go_enter Try.func18, Try.ntmps18
    go_wp2_with fail
    go_ret2
    exact ⟨ret_pairH Hv.out.symm Hk.out.symm, Below.refl _ _⟩
set_option maxRecDepth 100000 in
theorem implHexOf {B n : Nat} {v : Value} {b : Nat → UInt8} (w : World) (hrow : RowF w B 5 v n (byt b)) :
    Calls Try.prog 20 #[v] w fun e w' => e = .returned (.tuple #[.string (hexV n b), .int .i64 (hexK n)]) ∧ Below w.heap.size w w' := by
  obtain ⟨a, cap, rfl, _, _, _⟩ := hrow.form
  have hs := hrow.byteS
  clear hrow
  by_cases hn : n ≤ 2000
  · have hv : hexV n b = hexS b n := by unfold hexV; rw [if_pos hn]
    have hk : hexK n = 0 := by unfold hexK; rw [if_pos hn]
    have D := isData a n cap w
    rw [decide_eq_true (show (n : Int) ≤ 2000 by omega)] at D
    have C := Lib.hid (hexOf w hs (by omega))
    have D := Lib.hid D
    have Hv := Lib.hid hv; clear hv; have Hk := Lib.hid hk; clear hk
    clear hs
    go_enter Try.func20, Try.ntmps20
    go_wp2_with fail
    refine D.out.mono ?_
    rintro e wx ⟨rfl, rfl⟩
    go_wp2_with fail
    refine C.out.mono ?_
    rintro e wx ⟨rfl, hb⟩
    have HB := Lib.hid hb
    clear hb
    go_wp2_with fail
    go_ret2
    exact ⟨ret_pairH Hv.out.symm Hk.out.symm, HB.out⟩
  · have hv : hexV n b = ⟨#[]⟩ := by unfold hexV; rw [if_neg hn]
    have hk : hexK n = 2 := by unfold hexK; rw [if_neg hn]
    have D := isData a n cap w
    rw [decide_eq_false (show ¬ (n : Int) ≤ 2000 by omega)] at D
    have D := Lib.hid D
    have Hv := Lib.hid hv; clear hv; have Hk := Lib.hid hk; clear hk
    clear hs
    go_enter Try.func20, Try.ntmps20
    go_wp2_with fail
    refine D.out.mono ?_
    rintro e wx ⟨rfl, rfl⟩
    go_wp2_with fail
    go_ret2
    exact ⟨ret_pairH Hv.out.symm Hk.out.symm, Below.refl _ _⟩
set_option maxRecDepth 100000 in
set_option maxHeartbeats 1600000 in
theorem fnExactHexOf.walk (a0 : Option Addr) (n cap : Nat) (b : Nat → UInt8) (w : World) (hs : ByteS w a0 n cap b) :
    Calls Try.prog 5 #[.slice a0 n cap] w fun e w' => e = .returned (.bool true) ∧ Below w.heap.size w w' := by
  by_cases hn : n ≤ 1048576
  · have hn' : ¬ (1048576 : Int) < (n : Int) := by omega
    have HS := Lib.hid hs
    clear hs
    go_enter Try.func5, Try.ntmps5
    have l := Lib.hid (Below.refl w.heap.size w)
    go_wp2_with fail
    refine (toByteS a0 n cap b _ (HS.out.below l.out) hn).mono ?_
    rintro e wx ⟨vra, rfl, hr, hb⟩
    have hr := hr.mono (show w.heap.size ≤ _ from l.out.size)
    have l := carryS l hb
    have ra := Lib.hid hr
    clear hr hb
    go_wp2_with fail
    refine (specHexOf _ ra.out).mono ?_
    rintro e wx ⟨rfl, hb⟩
    have l := carryS l hb
    clear hb
    clear ra
    go_wp2_with fail
    refine (toByteS a0 n cap b _ (HS.out.below l.out) hn).mono ?_
    rintro e wx ⟨vrx, rfl, hr, hb⟩
    have hr := hr.mono (show w.heap.size ≤ _ from l.out.size)
    have l := carryS l hb
    have rx := Lib.hid hr
    clear hr hb
    go_wp2_with fail
    refine (implHexOf _ rx.out).mono ?_
    rintro e wx ⟨rfl, hb⟩
    have rx := carryR rx hb
    have l := carryS l hb
    clear hb
    go_wp2_with fail
    refine (toByteS a0 n cap b _ (HS.out.below l.out) hn).mono ?_
    rintro e wx ⟨vry, rfl, hr, hb⟩
    have hr := hr.mono (show w.heap.size ≤ _ from l.out.size)
    have rx := carryR rx hb
    have l := carryS l hb
    have ry := Lib.hid hr
    clear hr hb
    go_wp2_with fail
    refine (eqByteS _ rx.out ry.out).mono ?_
    rintro e wx ⟨rfl, hb⟩
    have l := carryS l hb
    clear hb
    go_wp2_with fail
    go_ret
    exact ⟨rfl, l.out⟩
  · have hn' : (1048576 : Int) < (n : Int) := by omega
    clear hs
    go_enter Try.func5, Try.ntmps5
    go_wp2
    go_ret
    exact ⟨rfl, Below.refl _ _⟩
set_option maxRecDepth 100000 in
theorem specBoxText (b : Nat → UInt8) (w : World) :
    Calls Try.prog 15 #[.agg (byteRow 256 b)] w fun e w' => e = .returned (.string (hexS b 256)) ∧ Below w.heap.size w w' := by
  have k0 := Blk.new w 25 (byteRow 256 b)
  have C := Lib.hid (l01Hex _ (k0.byteS (by omega)) (by omega))
  have l := Lib.hid ((Below.refl w.heap.size w).alloc (Nat.le_refl _) (.cells (byteRow 256 b) 25))
  clear k0
  go_enter Try.func15, Try.ntmps15
  go_wp2_with fail
  refine C.out.mono ?_
  rintro e wx ⟨rfl, hb⟩
  have l := carryS l hb
  clear hb
  go_wp2_with fail
  go_ret
  exact ⟨rfl, l.out⟩
set_option maxRecDepth 100000 in
theorem implBoxText (b : Nat → UInt8) (w : World) :
    Calls Try.prog 17 #[.agg (byteRow 256 b)] w fun e w' => e = .returned (.string (hexS b 256)) ∧ Below w.heap.size w w' := by
  have k0 := Blk.new w 25 (byteRow 256 b)
  have C := Lib.hid (hexOf _ (k0.byteS (by omega)) (by omega))
  have l := Lib.hid ((Below.refl w.heap.size w).alloc (Nat.le_refl _) (.cells (byteRow 256 b) 25))
  clear k0
  go_enter Try.func17, Try.ntmps17
  go_wp2_with fail
  refine C.out.mono ?_
  rintro e wx ⟨rfl, hb⟩
  have l := carryS l hb
  clear hb
  go_wp2_with fail
  go_ret
  exact ⟨rfl, l.out⟩
set_option maxRecDepth 100000 in
set_option maxHeartbeats 800000 in
theorem fnExactBoxText.walk (b : Nat → UInt8) (w : World) :
    Calls Try.prog 4 #[.agg (byteRow 256 b)] w fun e w' => e = .returned (.bool true) ∧ Below w.heap.size w w' := by
  go_enter Try.func4, Try.ntmps4
  have k0 := Lib.hid (Blk.new w 23 (byteRow 256 b))
  have l := Lib.hid ((Below.refl w.heap.size w).alloc (Nat.le_refl _) (.cells (byteRow 256 b) 23))
  go_wp2_with (refine wpList_loadH rfl _ _ rfl _ rfl (by assumption) Try.underlying23 rfl size23 (byteRow_size _ _) ?_)
  refine (toBox _ _).mono ?_
  rintro e wx ⟨rfl, hb⟩
  have k0 := carryB k0 hb
  have l := carryS l hb
  clear hb
  go_wp2_with (refine wpList_loadH rfl _ _ rfl _ rfl (by assumption) Try.underlying23 rfl size23 (byteRow_size _ _) ?_)
  refine (specBoxText _ _).mono ?_
  rintro e wx ⟨rfl, hb⟩
  have k0 := carryB k0 hb
  have l := carryS l hb
  clear hb
  go_wp2_with (refine wpList_loadH rfl _ _ rfl _ rfl (by assumption) Try.underlying23 rfl size23 (byteRow_size _ _) ?_)
  refine (toBox _ _).mono ?_
  rintro e wx ⟨rfl, hb⟩
  have k0 := carryB k0 hb
  have l := carryS l hb
  clear hb
  go_wp2_with (refine wpList_loadH rfl _ _ rfl _ rfl (by assumption) Try.underlying23 rfl size23 (byteRow_size _ _) ?_)
  refine (implBoxText _ _).mono ?_
  rintro e wx ⟨rfl, hb⟩
  have k0 := carryB k0 hb
  have l := carryS l hb
  clear hb
  go_wp2_with (refine wpList_loadH rfl _ _ rfl _ rfl (by assumption) Try.underlying23 rfl size23 (byteRow_size _ _) ?_)
  go_ret
  exact ⟨rfl, l.out⟩
end Go.Proofs.Ytbbmcpbdcdffeaa
