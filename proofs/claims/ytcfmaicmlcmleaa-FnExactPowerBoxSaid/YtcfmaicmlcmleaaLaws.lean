/- Contracts of the helpers of the laws: copies of arrays, and that an array equals itself. No condition. -/
import Derived.Test.YtcfmaicmlcmleaaTypes
namespace Go.Proofs.Ytcfmaicmlcmleaa
open Go.RowKit
set_option maxRecDepth 100000 in
set_option maxHeartbeats 400000 in
theorem eqBox (b : Nat → UInt8) (w : World) :
    Calls Try.prog 42 #[.agg (byteRow 256 b), .agg (byteRow 256 b)] w fun e w' => e = .returned (.bool true) ∧ Below w.heap.size w w' := by
  go_enter Try.func42, Try.ntmps42
  go_wp2
  go_loopw [5] (fun i wr => ∃ k : Nat, k ≤ 256 ∧ i = .int .i64 k ∧ Blk wr w.heap.size 40 (byteRow 256 b) ∧ Blk wr (w.heap.size + 1) 40 (byteRow 256 b) ∧ Below w.heap.size w wr)
    (fun i _ => 256 - (intOf i).toNat)
  case atStart =>
    exact ⟨0, by omega, rfl, (Blk.new w _ _).alloc _, (Blk.newAt (by simp)), ((Below.refl _ _).alloc (by omega) _).alloc (by simp) _⟩
  case round =>
    obtain ⟨k, hk, rfl, h0, h1, hb⟩ := hrel
    by_cases hlt : k < 256
    · have c0 := h0.byteAt hlt
      have c1 := h1.byteAt hlt
      have H0 := Lib.hid h0; clear h0; have H1 := Lib.hid h1; clear h1; have Hb := Lib.hid hb; clear hb
      have hki : (k : Int) < 256 := by omega
      go_wp2
      go_quiet (fail)
      go_wp2
      go_roundw
      case rel => exact ⟨k + 1, by omega, by go_num, H0.out.drewN _, H1.out.drewN _, below_drewN' Hb.out _⟩
      case measure => simp [intOf]; omega
    · have H0 := Lib.hid h0; clear h0; have H1 := Lib.hid h1; clear h1; have Hb := Lib.hid hb; clear hb
      go_wp2
      go_ret
      exact ⟨rfl, Hb.out⟩
end Go.Proofs.Ytcfmaicmlcmleaa
