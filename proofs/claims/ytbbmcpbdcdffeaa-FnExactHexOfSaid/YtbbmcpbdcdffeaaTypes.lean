/- Closed facts on the array types of this translation: sizes and zero rows. No condition. -/
import Derived.Test.YtbbmcpbdcdffeaaRows
import Derived.Test.YtbbmcpbdcdffeaaKit
namespace Go.Proofs.Ytbbmcpbdcdffeaa
theorem size23 : (Try.prog.info? 23).map (·.size) = some 256 := by kernel_rfl
theorem size25 : (Try.prog.info? 25).map (·.size) = some 256 := by kernel_rfl
theorem zeroBox : Try.zeroCells25 = byteRow 256 (fun _ => 0) := by kernel_rfl
theorem size34 : (Try.prog.info? 34).map (·.size) = some 16 := by kernel_rfl
theorem size35 : (Try.prog.info? 35).map (·.size) = some 16 := by kernel_rfl
theorem size55 : (Try.prog.info? 55).map (·.size) = some 16 := by kernel_rfl
theorem size43 : (Try.prog.info? 43).map (·.size) = some 4 := by kernel_rfl
theorem size44 : (Try.prog.info? 44).map (·.size) = some 16 := by kernel_rfl
theorem size45 : (Try.prog.info? 45).map (·.size) = some 16 := by kernel_rfl
theorem size65 : (Try.prog.info? 65).map (·.size) = some 256 := by kernel_rfl
theorem size73 : (Try.prog.info? 73).map (·.size) = some 16 := by kernel_rfl
theorem zero16 : (#[.int .u8 0, .int .u8 0, .int .u8 0, .int .u8 0, .int .u8 0, .int .u8 0, .int .u8 0, .int .u8 0, .int .u8 0, .int .u8 0, .int .u8 0, .int .u8 0, .int .u8 0, .int .u8 0, .int .u8 0, .int .u8 0] : Array Value) = byteRow 16 (fun _ => 0) := by kernel_rfl
theorem zero4 : (#[.int .u8 0, .int .u8 0, .int .u8 0, .int .u8 0] : Array Value) = byteRow 4 (fun _ => 0) := by kernel_rfl
theorem false16 : (#[.bool false, .bool false, .bool false, .bool false, .bool false, .bool false, .bool false, .bool false, .bool false, .bool false, .bool false, .bool false, .bool false, .bool false, .bool false, .bool false] : Array Value) = boolRow 16 (fun _ => false) := by kernel_rfl
end Go.Proofs.Ytbbmcpbdcdffeaa
