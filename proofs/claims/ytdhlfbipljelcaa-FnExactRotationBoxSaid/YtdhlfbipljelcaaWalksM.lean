/- The walk of the law on boxes of rotations. No condition. -/
import Derived.Test.YtdhlfbipljelcaaRows
import Derived.Test.YtdhlfbipljelcaaRot
set_option linter.unusedVariables false
namespace Go.Proofs.Ytdhlfbipljelcaa
open Go.RowKit Plain
set_option maxRecDepth 100000 in
set_option maxHeartbeats 1600000 in
theorem fnExactRotationBox.walk (a0 : Option Addr) (n cap : Nat) (b : Nat → Int) (c : UInt8) (w : World) (hs : LongS w a0 n cap b) :
    Calls Try.prog 13 #[.slice a0 n cap, .int .u8 (c.toNat : Int)] w fun e w' => e = .returned (.bool true) ∧ Below w.heap.size w w' := by
  by_cases hn : n ≤ 1048576
  · have hn' : ¬ (1048576 : Int) < (n : Int) := by omega
    have HS := Lib.hid hs
    clear hs
    go_enter Try.func13, Try.ntmps13
    have l := Lib.hid (Below.refl w.heap.size w)
    go_wp2_with fail
    refine (toInt64S a0 n cap b _ (HS.out.below l.out) hn).mono ?_
    rintro e wx ⟨vra, rfl, hr, hb⟩
    have hr := hr.mono (show w.heap.size ≤ _ from l.out.size)
    have l := carryS l hb
    have ra := Lib.hid hr
    clear hr hb
    go_wp2_with fail
    refine (specRotationBox c _ ra.out).mono ?_
    rintro e wx ⟨rfl, hb⟩
    have l := carryS l hb
    clear hb
    clear ra
    go_wp2_with (refine wpList_storeNew rfl _ _ _ rfl _ rfl rfl zeroBox size24 (byteRow_size _ _) (byteRow_size _ _) (byteRow_all _ _) ?_; intro wy kr hb; have l := carryS l hb; have kr := Lib.hid kr; clear hb)
    refine (toInt64S a0 n cap b _ (HS.out.below l.out) hn).mono ?_
    rintro e wx ⟨vrx, rfl, hr, hb⟩
    have hr := hr.mono (show w.heap.size ≤ _ from l.out.size)
    have kr := carryB kr hb
    have l := carryS l hb
    have rx := Lib.hid hr
    clear hr hb
    go_wp2_with fail
    refine (implRotationBox c _ rx.out).mono ?_
    rintro e wx ⟨rfl, hb⟩
    have kr := carryB kr hb
    have rx := carryR rx hb
    have l := carryS l hb
    clear hb
    go_wp2_with (first | (refine wpList_loadH rfl _ _ rfl _ rfl (by assumption) Try.underlying24 rfl size24 (byteRow_size _ _) ?_) | (refine wpList_storeNew rfl _ _ _ rfl _ rfl rfl zeroBox size24 (byteRow_size _ _) (byteRow_size _ _) (byteRow_all _ _) ?_; intro wy ks hb; have kr := carryB kr hb; have rx := carryR rx hb; have l := carryS l hb; have ks := Lib.hid ks; clear hb))
    refine (eqBox _ _).mono ?_
    rintro e wx ⟨rfl, hb⟩
    have rx := carryR rx hb
    have l := carryS l hb
    clear hb
    go_wp2_with fail
    refine (toInt64S a0 n cap b _ (HS.out.below l.out) hn).mono ?_
    rintro e wx ⟨vry, rfl, hr, hb⟩
    have hr := hr.mono (show w.heap.size ≤ _ from l.out.size)
    have rx := carryR rx hb
    have l := carryS l hb
    have ry := Lib.hid hr
    clear hr hb
    go_wp2_with fail
    refine (eqInt64S _ rx.out ry.out).mono ?_
    rintro e wx ⟨rfl, hb⟩
    have l := carryS l hb
    clear hb
    go_wp2_with fail
    go_ret
    exact ⟨rfl, l.out⟩
  · have hn' : (1048576 : Int) < (n : Int) := by omega
    clear hs
    go_enter Try.func13, Try.ntmps13
    go_wp2
    go_ret
    exact ⟨rfl, Below.refl _ _⟩
end Go.Proofs.Ytdhlfbipljelcaa
