/- Contracts: the laws' helpers on slices. No condition. -/
import Derived.Test.YtbbmcpbdcdffeaaRows
import Derived.Test.YtbbmcpbdcdffeaaSli
import Derived.Test.YtbbmcpbdcdffeaaOpen
namespace Go.Proofs.Ytbbmcpbdcdffeaa
open Go.RowKit
theorem info_long : (Try.prog.info? 2).map (fun i => (i.zero, i.size, i.bytes)) = some (some (.int .i64 0), 1, 8) := by kernel_rfl
theorem info_byte : (Try.prog.info? 5).map (fun i => (i.zero, i.size, i.bytes)) = some (some (.int .u8 0), 1, 1) := by kernel_rfl
def lng (f : Nat → Int) : Nat → Value := fun i => .int .i64 (f i)
def byt (f : Nat → UInt8) : Nat → Value := fun i => .int .u8 ((f i).toNat : Int)
theorem lng_put (f : Nat → Int) (i : Nat) (x : Int) : upd (lng f) i (.int .i64 x) = lng (upd f i x) := by
  funext j
  by_cases h : j = i <;> simp [upd, lng, h]
theorem byt_put (f : Nat → UInt8) (i : Nat) (x : UInt8) : upd (byt f) i (.int .u8 (x.toNat : Int)) = byt (upd f i x) := by
  funext j
  by_cases h : j = i <;> simp [upd, byt, h]
theorem mod256 (k : Nat) : ((UInt8.ofNat k).toNat : Int) = (k : Int) % 256 := by
  have : (UInt8.ofNat k).toNat = k % 256 := UInt8.toNat_ofNat'
  omega
theorem below_any {B : Nat} {w w' : World} (h : Below w.heap.size w w') (hb : B ≤ w.heap.size) : Below B w w' := h.mono hb

set_option maxRecDepth 100000 in
set_option maxHeartbeats 400000 in
theorem eqByteS {B1 B2 n : Nat} {v1 v2 : Value} {f : Nat → UInt8} (w : World) (h1 : RowF w B1 5 v1 n (byt f)) (h2 : RowF w B2 5 v2 n (byt f)) :
    Calls Try.prog 21 #[v1, v2] w fun e w' => e = .returned (.bool true) ∧ Below w.heap.size w w' := by
  obtain ⟨a1, c1, rfl, hc1, hm1, f1⟩ := h1.form
  obtain ⟨a2, c2, rfl, hc2, hm2, f2⟩ := h2.form
  have hmx : n ≤ maxLen := Nat.le_trans hc1 hm1
  unfold maxLen at hmx
  rcases Nat.eq_zero_or_pos n with h0 | h0
  · subst h0
    clear f1 f2 hc1 hm1 hc2 hm2 hmx
    have H1 := Lib.hid h1; clear h1; have H2 := Lib.hid h2; clear h2
    go_enter Try.func21, Try.ntmps21
    go_wp2
    go_loopw [5] (fun i wr => i = .int .i64 0 ∧ Below w.heap.size w wr) (fun _ _ => 0)
    case atStart => exact ⟨rfl, Below.refl _ _⟩
    case round =>
      obtain ⟨rfl, hb⟩ := hrel
      have Hb := Lib.hid hb; clear hb
      go_wp2
      go_ret
      exact ⟨rfl, Hb.out⟩
  · obtain ⟨g1, rfl, _, _⟩ := f1.resolve_left (by omega)
    obtain ⟨g2, rfl, _, _⟩ := f2.resolve_left (by omega)
    clear f1 f2 hc1 hm1 hc2 hm2
    have H1 := Lib.hid h1; clear h1; have H2 := Lib.hid h2; clear h2
    go_enter Try.func21, Try.ntmps21
    go_wp2
    go_loopw [5] (fun i wr => ∃ k : Nat, k ≤ n ∧ i = .int .i64 k ∧ RowF wr B1 5 (.slice (some ⟨g1, 0, none⟩) n c1) n (byt f) ∧ RowF wr B2 5 (.slice (some ⟨g2, 0, none⟩) n c2) n (byt f) ∧ Below w.heap.size w wr)
      (fun i _ => n - (intOf i).toNat)
    case atStart => exact ⟨0, by omega, rfl, H1.out, H2.out, Below.refl _ _⟩
    case round =>
      obtain ⟨k, hk, rfl, hr1, hr2, hb⟩ := hrel
      by_cases hlt : k < n
      · have c1 : wr.cell? ⟨g1, k, none⟩ = some (.int .u8 ((f k).toNat : Int)) := hr1.at_ hlt
        have c2 : wr.cell? ⟨g2, k, none⟩ = some (.int .u8 ((f k).toNat : Int)) := hr2.at_ hlt
        have Hr1 := Lib.hid hr1; clear hr1; have Hr2 := Lib.hid hr2; clear hr2; have Hb := Lib.hid hb; clear hb
        have hki : (k : Int) < n := by omega
        go_wp2
        go_quiet (fail)
        go_wp2
        go_roundw
        case rel => exact ⟨k + 1, by omega, by go_num, Hr1.out.drewN _, Hr2.out.drewN _, below_drewN' Hb.out _⟩
        case measure => simp [intOf]; omega
      · obtain rfl : k = n := by omega
        have Hr1 := Lib.hid hr1; clear hr1; have Hr2 := Lib.hid hr2; clear hr2; have Hb := Lib.hid hb; clear hb
        go_wp2
        go_ret
        exact ⟨rfl, Hb.out⟩
end Go.Proofs.Ytbbmcpbdcdffeaa
