/- Closed facts on the array types of this translation: sizes and zero rows. No condition. -/
import Derived.Test.YtoijoogonajopaaRows
import Derived.Test.YtoijoogonajopaaKit
namespace Go.Proofs.Ytoijoogonajopaa
theorem size22 : (Try.prog.info? 22).map (·.size) = some 256 := by kernel_rfl
theorem size25 : (Try.prog.info? 25).map (·.size) = some 256 := by kernel_rfl
theorem zeroBox : Try.zeroCells25 = byteRow 256 (fun _ => 0) := by kernel_rfl
theorem size46 : (Try.prog.info? 46).map (·.size) = some 256 := by kernel_rfl
theorem zero16 : (#[.int .u8 0, .int .u8 0, .int .u8 0, .int .u8 0, .int .u8 0, .int .u8 0, .int .u8 0, .int .u8 0, .int .u8 0, .int .u8 0, .int .u8 0, .int .u8 0, .int .u8 0, .int .u8 0, .int .u8 0, .int .u8 0] : Array Value) = byteRow 16 (fun _ => 0) := by kernel_rfl
theorem zero4 : (#[.int .u8 0, .int .u8 0, .int .u8 0, .int .u8 0] : Array Value) = byteRow 4 (fun _ => 0) := by kernel_rfl
theorem false16 : (#[.bool false, .bool false, .bool false, .bool false, .bool false, .bool false, .bool false, .bool false, .bool false, .bool false, .bool false, .bool false, .bool false, .bool false, .bool false, .bool false] : Array Value) = boolRow 16 (fun _ => false) := by kernel_rfl
end Go.Proofs.Ytoijoogonajopaa
