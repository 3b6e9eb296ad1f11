/- Closed facts on the array types of this translation: sizes and zero rows. No condition. -/
import Derived.Test.YtphfiekhpicpgaaRows
import Derived.Test.YtphfiekhpicpgaaKit
namespace Go.Proofs.Ytphfiekhpicpgaa
theorem size26 : (Try.prog.info? 26).map (·.size) = some 256 := by kernel_rfl
theorem size27 : (Try.prog.info? 27).map (·.size) = some 256 := by kernel_rfl
theorem zeroBox : Try.zeroCells27 = byteRow 256 (fun _ => 0) := by kernel_rfl
theorem size54 : (Try.prog.info? 54).map (·.size) = some 16 := by kernel_rfl
theorem size55 : (Try.prog.info? 55).map (·.size) = some 16 := by kernel_rfl
theorem size105 : (Try.prog.info? 105).map (·.size) = some 256 := by kernel_rfl
theorem zero16 : (#[.int .u8 0, .int .u8 0, .int .u8 0, .int .u8 0, .int .u8 0, .int .u8 0, .int .u8 0, .int .u8 0, .int .u8 0, .int .u8 0, .int .u8 0, .int .u8 0, .int .u8 0, .int .u8 0, .int .u8 0, .int .u8 0] : Array Value) = byteRow 16 (fun _ => 0) := by kernel_rfl
theorem zero4 : (#[.int .u8 0, .int .u8 0, .int .u8 0, .int .u8 0] : Array Value) = byteRow 4 (fun _ => 0) := by kernel_rfl
theorem false16 : (#[.bool false, .bool false, .bool false, .bool false, .bool false, .bool false, .bool false, .bool false, .bool false, .bool false, .bool false, .bool false, .bool false, .bool false, .bool false, .bool false] : Array Value) = boolRow 16 (fun _ => false) := by kernel_rfl
end Go.Proofs.Ytphfiekhpicpgaa
