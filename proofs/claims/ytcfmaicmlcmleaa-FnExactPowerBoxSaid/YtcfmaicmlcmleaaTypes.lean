/- Closed facts on the array types of this translation: sizes and zero rows. No condition. -/
import Derived.Test.YtcfmaicmlcmleaaRows
import Derived.Test.YtcfmaicmlcmleaaKit
namespace Go.Proofs.Ytcfmaicmlcmleaa
theorem size39 : (Try.prog.info? 39).map (·.size) = some 256 := by kernel_rfl
theorem size40 : (Try.prog.info? 40).map (·.size) = some 256 := by kernel_rfl
def Try.zeroCells40 : Array Value := byteRow 256 (fun _ => 0)
@[simp] theorem Try.zeroValue40 (w : World) : Sem.run Try.prog (zeroValue 40) w = .ok (.agg Try.zeroCells40) w := by kernel_rfl
@[simp] theorem Try.zeroCells40_size : Try.zeroCells40.size = 256 := by kernel_rfl
@[simp] theorem Try.zeroCells40_ne : Try.zeroCells40 ≠ #[] := fun h => by have := congrArg Array.size h; rw [Try.zeroCells40_size] at this; exact absurd this (by decide)
theorem zeroBox : Try.zeroCells40 = byteRow 256 (fun _ => 0) := by kernel_rfl
theorem zero16 : (#[.int .u8 0, .int .u8 0, .int .u8 0, .int .u8 0, .int .u8 0, .int .u8 0, .int .u8 0, .int .u8 0, .int .u8 0, .int .u8 0, .int .u8 0, .int .u8 0, .int .u8 0, .int .u8 0, .int .u8 0, .int .u8 0] : Array Value) = byteRow 16 (fun _ => 0) := by kernel_rfl
theorem zero4 : (#[.int .u8 0, .int .u8 0, .int .u8 0, .int .u8 0] : Array Value) = byteRow 4 (fun _ => 0) := by kernel_rfl
theorem false16 : (#[.bool false, .bool false, .bool false, .bool false, .bool false, .bool false, .bool false, .bool false, .bool false, .bool false, .bool false, .bool false, .bool false, .bool false, .bool false, .bool false] : Array Value) = boolRow 16 (fun _ => false) := by kernel_rfl
end Go.Proofs.Ytcfmaicmlcmleaa
