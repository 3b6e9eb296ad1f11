/- Closed facts on the array types of this translation: sizes and zero rows. No condition. -/
import Derived.Test.YtnkfghoajpghkaaRows
import Derived.Test.YtnkfghoajpghkaaKit
namespace Go.Proofs.Ytnkfghoajpghkaa
theorem size63 : (Try.prog.info? 63).map (·.size) = some 16 := by kernel_rfl
theorem size89 : (Try.prog.info? 89).map (·.size) = some 16 := by kernel_rfl
theorem size67 : (Try.prog.info? 67).map (·.size) = some 16 := by kernel_rfl
theorem size28 : (Try.prog.info? 28).map (·.size) = some 4 := by kernel_rfl
theorem size29 : (Try.prog.info? 29).map (·.size) = some 16 := by kernel_rfl
theorem size30 : (Try.prog.info? 30).map (·.size) = some 16 := by kernel_rfl
theorem size96 : (Try.prog.info? 96).map (·.size) = some 16 := by kernel_rfl
theorem zero16 : (#[.int .u8 0, .int .u8 0, .int .u8 0, .int .u8 0, .int .u8 0, .int .u8 0, .int .u8 0, .int .u8 0, .int .u8 0, .int .u8 0, .int .u8 0, .int .u8 0, .int .u8 0, .int .u8 0, .int .u8 0, .int .u8 0] : Array Value) = byteRow 16 (fun _ => 0) := by kernel_rfl
theorem zero4 : (#[.int .u8 0, .int .u8 0, .int .u8 0, .int .u8 0] : Array Value) = byteRow 4 (fun _ => 0) := by kernel_rfl
theorem false16 : (#[.bool false, .bool false, .bool false, .bool false, .bool false, .bool false, .bool false, .bool false, .bool false, .bool false, .bool false, .bool false, .bool false, .bool false, .bool false, .bool false] : Array Value) = boolRow 16 (fun _ => false) := by kernel_rfl
end Go.Proofs.Ytnkfghoajpghkaa
