/- Contracts of two functions of the library, out of the kit's shelf: bits.OnesCount8 and bytes.IndexByte. No condition. -/
import Derived.Test.YtphfiekhpicpgaaRows
import Derived.Test.YtphfiekhpicpgaaPerm
import Derived.Shelf.Small.Bits
namespace Go.Proofs.Ytphfiekhpicpgaa
open Go.RowKit Plain
open Go.Shelf
def lays135_ren : Go.Shelf.Ren := ⟨fun | 135 => 81 | n => n, fun | 5 => 5 | 3 => 3 | 9 => 9 | n => n, fun | n => n⟩
theorem lays135 : Go.Proofs.Lays.n135 Try.prog lays135_ren := {
  mixed := by kernel_rfl
  f135 := Try.func81.trans (congrArg some (by kernel_rfl))
  t3 := Try.underlying3
  a3 := Try.isAgg3
  z3 := Try.sizeOf3
  v3 := Try.zeroValue3
  t5 := Try.underlying5
  a5 := Try.isAgg5
  z5 := Try.sizeOf5
  v5 := Try.zeroValue5
  t9 := Try.underlying9
  a9 := Try.isAgg9
  z9 := Try.sizeOf9
  v9 := Try.zeroValue9 }
theorem popAux_eq : ∀ f x, Lib.popAux f x = popF f x
  | 0, _ => rfl
  | f + 1, x => by
    show x % 2 + Lib.popAux f (x / 2) = x % 2 + popF f (x / 2)
    rw [popAux_eq f]
theorem onesCount8 (x : UInt8) (w : World) :
    Calls Try.prog 81 #[.int .u8 (x.toNat : Int)] w fun e w' => e = .returned (.int .i64 (pop x.toNat)) ∧ w' = w := by
  refine (Any.bits_OnesCount8 lays135 (x.toNat : Int) w (by omega) (by have := x.toNat_lt; omega)).mono fun e w' ⟨he, hw⟩ => ⟨?_, hw⟩
  rw [he, Int.toNat_natCast]
  exact ret_int (congrArg Nat.cast (popAux_eq 64 _))
end Go.Proofs.Ytphfiekhpicpgaa
