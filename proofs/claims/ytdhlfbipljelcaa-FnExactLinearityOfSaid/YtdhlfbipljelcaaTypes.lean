/- Closed facts on the array types of this translation: sizes and zero rows. No condition. -/
import Derived.Test.YtdhlfbipljelcaaRows
import Derived.Test.YtdhlfbipljelcaaKit
namespace Go.Proofs.Ytdhlfbipljelcaa
theorem size22 : (Try.prog.info? 22).map (·.size) = some 256 := by kernel_rfl
theorem size24 : (Try.prog.info? 24).map (·.size) = some 256 := by kernel_rfl
theorem zeroBox : Try.zeroCells24 = byteRow 256 (fun _ => 0) := by kernel_rfl
theorem size37 : (Try.prog.info? 37).map (·.size) = some 16 := by kernel_rfl
theorem size48 : (Try.prog.info? 48).map (·.size) = some 16 := by kernel_rfl
theorem size38 : (Try.prog.info? 38).map (·.size) = some 16 := by kernel_rfl
theorem size59 : (Try.prog.info? 59).map (·.size) = some 4 := by kernel_rfl
theorem size60 : (Try.prog.info? 60).map (·.size) = some 16 := by kernel_rfl
theorem size61 : (Try.prog.info? 61).map (·.size) = some 16 := by kernel_rfl
theorem size88 : (Try.prog.info? 88).map (·.size) = some 16 := by kernel_rfl
theorem zero16 : (#[.int .u8 0, .int .u8 0, .int .u8 0, .int .u8 0, .int .u8 0, .int .u8 0, .int .u8 0, .int .u8 0, .int .u8 0, .int .u8 0, .int .u8 0, .int .u8 0, .int .u8 0, .int .u8 0, .int .u8 0, .int .u8 0] : Array Value) = byteRow 16 (fun _ => 0) := by kernel_rfl
theorem zero4 : (#[.int .u8 0, .int .u8 0, .int .u8 0, .int .u8 0] : Array Value) = byteRow 4 (fun _ => 0) := by kernel_rfl
theorem false16 : (#[.bool false, .bool false, .bool false, .bool false, .bool false, .bool false, .bool false, .bool false, .bool false, .bool false, .bool false, .bool false, .bool false, .bool false, .bool false, .bool false] : Array Value) = boolRow 16 (fun _ => false) := by kernel_rfl
end Go.Proofs.Ytdhlfbipljelcaa
