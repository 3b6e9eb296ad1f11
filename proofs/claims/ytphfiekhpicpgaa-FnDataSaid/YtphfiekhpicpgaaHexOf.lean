/- Contracts: hex texts of bytes and of boxes, by the program and by the reference, and the walks of their laws. No condition. -/
import Derived.Test.YtphfiekhpicpgaaRows
import Derived.Test.YtphfiekhpicpgaaLaws
import Derived.Test.YtphfiekhpicpgaaHex
import Derived.Test.YtphfiekhpicpgaaSliIn
set_option linter.unusedVariables false
namespace Go.Proofs.Ytphfiekhpicpgaa
open Go.RowKit Plain
def hexV (n : Nat) (b : Nat → UInt8) : ByteArray := if n ≤ 2000 then hexS b n else ⟨#[]⟩
def hexK (n : Nat) : Int := if n ≤ 2000 then 0 else 2
theorem ret_pairH {a b : ByteArray} {n m : Int} (h : a = b) (h2 : n = m) : Ending.returned (.tuple #[.string a, .int .i64 n]) = .returned (.tuple #[.string b, .int .i64 m]) := by rw [h, h2]
theorem isData (a : Option Addr) (n cap : Nat) (w : World) :
    Calls Try.prog 63 #[.slice a n cap] w fun e w' => e = .returned (.bool (decide ((n : Int) ≤ 2000))) ∧ w' = w := by
  go_enter Try.func63, Try.ntmps63
  go_wp2
  go_ret
  exact ⟨rfl, rfl⟩
set_option maxRecDepth 100000 in
theorem specHexOf {B n : Nat} {v : Value} {b : Nat → UInt8} (w : World) (hrow : RowF w B 5 v n (byt b)) :
    Calls Try.prog 19 #[v] w fun e w' => e = .returned (.tuple #[.string (hexV n b), .int .i64 (hexK n)]) ∧ Below w.heap.size w w' := by
  obtain ⟨a, cap, rfl, _, _, _⟩ := hrow.form
  have hs := hrow.byteS
  clear hrow
  by_cases hn : n ≤ 2000
  · have hv : hexV n b = hexS b n := by unfold hexV; rw [if_pos hn]
    have hk : hexK n = 0 := by unfold hexK; rw [if_pos hn]
    have hni : ¬ (2000 : Int) < (n : Int) := by omega
    have C := Lib.hid (l01Hex w hs (by omega))
    have Hv := Lib.hid hv; clear hv; have Hk := Lib.hid hk; clear hk
    clear hs
    go_enter Try.func19, Try.ntmps19
    go_wp2_with fail
    refine C.out.mono ?_
    rintro e wx ⟨rfl, hb⟩
    have HB := Lib.hid hb
    clear hb
    go_wp2_with fail
    go_ret2
    exact ⟨ret_pairH Hv.out.symm Hk.out.symm, HB.out⟩
  · have hv : hexV n b = ⟨#[]⟩ := by unfold hexV; rw [if_neg hn]
    have hk : hexK n = 2 := by unfold hexK; rw [if_neg hn]
    have hni : (2000 : Int) < (n : Int) := by omega
    have Hv := Lib.hid hv; clear hv; have Hk := Lib.hid hk; clear hk
    clear hs
    go_enter Try.func19, Try.ntmps19
    go_wp2_with fail
    go_ret2
    exact ⟨ret_pairH Hv.out.symm Hk.out.symm, Below.refl _ _⟩
set_option maxRecDepth 100000 in
theorem implHexOf {B n : Nat} {v : Value} {b : Nat → UInt8} (w : World) (hrow : RowF w B 5 v n (byt b)) :
    Calls Try.prog 18 #[v] w fun e w' => e = .returned (.tuple #[.string (hexV n b), .int .i64 (hexK n)]) ∧ Below w.heap.size w w' := by
  obtain ⟨a, cap, rfl, _, _, _⟩ := hrow.form
  have hs := hrow.byteS
  clear hrow
  by_cases hn : n ≤ 2000
  · have hv : hexV n b = hexS b n := by unfold hexV; rw [if_pos hn]
    have hk : hexK n = 0 := by unfold hexK; rw [if_pos hn]
    have D := isData a n cap w
    rw [decide_eq_true (show (n : Int) ≤ 2000 by omega)] at D
    have C := Lib.hid (hexOf w hs (by omega))
    have D := Lib.hid D
    have Hv := Lib.hid hv; clear hv; have Hk := Lib.hid hk; clear hk
    clear hs
    go_enter Try.func18, Try.ntmps18
    go_wp2_with fail
    refine D.out.mono ?_
    rintro e wx ⟨rfl, rfl⟩
    go_wp2_with fail
    refine C.out.mono ?_
    rintro e wx ⟨rfl, hb⟩
    have HB := Lib.hid hb
    clear hb
    go_wp2_with fail
    go_ret2
    exact ⟨ret_pairH Hv.out.symm Hk.out.symm, HB.out⟩
  · have hv : hexV n b = ⟨#[]⟩ := by unfold hexV; rw [if_neg hn]
    have hk : hexK n = 2 := by unfold hexK; rw [if_neg hn]
    have D := isData a n cap w
    rw [decide_eq_false (show ¬ (n : Int) ≤ 2000 by omega)] at D
    have D := Lib.hid D
    have Hv := Lib.hid hv; clear hv; have Hk := Lib.hid hk; clear hk
    clear hs
    go_enter Try.func18, Try.ntmps18
    go_wp2_with fail
    refine D.out.mono ?_
    rintro e wx ⟨rfl, rfl⟩
    go_wp2_with fail
    go_ret2
    exact ⟨ret_pairH Hv.out.symm Hk.out.symm, Below.refl _ _⟩
end Go.Proofs.Ytphfiekhpicpgaa
