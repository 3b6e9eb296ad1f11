/- Contracts: the laws' helpers on slices. No condition. -/
import Derived.Test.YtphfiekhpicpgaaRows
import Derived.Test.YtphfiekhpicpgaaSli
import Derived.Test.YtphfiekhpicpgaaOpen
namespace Go.Proofs.Ytphfiekhpicpgaa
open Go.RowKit
theorem info_long : (Try.prog.info? 2).map (fun i => (i.zero, i.size, i.bytes)) = some (some (.int .i64 0), 1, 8) := by kernel_rfl
theorem info_byte : (Try.prog.info? 5).map (fun i => (i.zero, i.size, i.bytes)) = some (some (.int .u8 0), 1, 1) := by kernel_rfl
def lng (f : Nat → Int) : Nat → Value := fun i => .int .i64 (f i)
def byt (f : Nat → UInt8) : Nat → Value := fun i => .int .u8 ((f i).toNat : Int)
theorem lng_put (f : Nat → Int) (i : Nat) (x : Int) : upd (lng f) i (.int .i64 x) = lng (upd f i x) := by
  funext j
  by_cases h : j = i <;> simp [upd, lng, h]
theorem byt_put (f : Nat → UInt8) (i : Nat) (x : UInt8) : upd (byt f) i (.int .u8 (x.toNat : Int)) = byt (upd f i x) := by
  funext j
  by_cases h : j = i <;> simp [upd, byt, h]
theorem mod256 (k : Nat) : ((UInt8.ofNat k).toNat : Int) = (k : Int) % 256 := by
  have : (UInt8.ofNat k).toNat = k % 256 := UInt8.toNat_ofNat'
  omega
theorem below_any {B : Nat} {w w' : World} (h : Below w.heap.size w w') (hb : B ≤ w.heap.size) : Below B w w' := h.mono hb

end Go.Proofs.Ytphfiekhpicpgaa
