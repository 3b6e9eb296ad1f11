/- The walk of the law on ranks of rows of bits. No condition. -/
import Derived.Test.YtnkfghoajpghkaaRows
import Derived.Test.YtnkfghoajpghkaaRankS
set_option linter.unusedVariables false
namespace Go.Proofs.Ytnkfghoajpghkaa
open Go.RowKit Plain
set_option maxRecDepth 100000 in
set_option maxHeartbeats 1600000 in
theorem fnExactRankOfBits.walk (a0 : Option Addr) (n cap : Nat) (b : Nat → Int) (w : World) (hs : LongS w a0 n cap b) :
    Calls Try.prog 6 #[.slice a0 n cap] w fun e w' => e = .returned (.bool true) ∧ Below w.heap.size w w' := by
  by_cases hn : n ≤ 1048576
  · have hn' : ¬ (1048576 : Int) < (n : Int) := by omega
    have HS := Lib.hid hs
    clear hs
    go_enter Try.func6, Try.ntmps6
    have l := Lib.hid (Below.refl w.heap.size w)
    go_wp2_with fail
    refine (toInt64S a0 n cap b _ (HS.out.below l.out) hn).mono ?_
    rintro e wx ⟨vra, rfl, hr, hb⟩
    have hr := hr.mono (show w.heap.size ≤ _ from l.out.size)
    have l := carryS l hb
    have ra := Lib.hid hr
    clear hr hb
    go_wp2_with fail
    refine (specRankOfBits _ ra.out).mono ?_
    rintro e wx ⟨rfl, hb⟩
    have l := carryS l hb
    clear hb
    clear ra
    go_wp2_with fail
    refine (toInt64S a0 n cap b _ (HS.out.below l.out) hn).mono ?_
    rintro e wx ⟨vrx, rfl, hr, hb⟩
    have hr := hr.mono (show w.heap.size ≤ _ from l.out.size)
    have l := carryS l hb
    have rx := Lib.hid hr
    clear hr hb
    go_wp2_with fail
    refine (implRankOfBits _ rx.out).mono ?_
    rintro e wx ⟨rfl, hb⟩
    have rx := carryR rx hb
    have l := carryS l hb
    clear hb
    go_wp2_with fail
    refine (toInt64S a0 n cap b _ (HS.out.below l.out) hn).mono ?_
    rintro e wx ⟨vry, rfl, hr, hb⟩
    have hr := hr.mono (show w.heap.size ≤ _ from l.out.size)
    have rx := carryR rx hb
    have l := carryS l hb
    have ry := Lib.hid hr
    clear hr hb
    go_wp2_with fail
    refine (eqInt64S _ rx.out ry.out).mono ?_
    rintro e wx ⟨rfl, hb⟩
    have l := carryS l hb
    clear hb
    go_wp2_with fail
    go_ret
    exact ⟨rfl, l.out⟩
  · have hn' : (1048576 : Int) < (n : Int) := by omega
    clear hs
    go_enter Try.func6, Try.ntmps6
    go_wp2
    go_ret
    exact ⟨rfl, Below.refl _ _⟩
end Go.Proofs.Ytnkfghoajpghkaa
