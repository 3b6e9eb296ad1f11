/- Contracts of the helpers of the laws: copies of arrays, and that an array equals itself. No condition. -/
import Derived.Test.YtdhlfbipljelcaaTypes
namespace Go.Proofs.Ytdhlfbipljelcaa
open Go.RowKit
set_option maxRecDepth 100000 in
set_option maxHeartbeats 400000 in
theorem toBox (b : Nat → UInt8) (w : World) :
    Calls Try.prog 16 #[.agg (byteRow 256 b)] w fun e w' => e = .returned (.agg (byteRow 256 b)) ∧ Below w.heap.size w w' := by
  go_enter Try.func16, Try.ntmps16
  go_wp2
  go_loopw [4] (fun i wr => ∃ k : Nat, k ≤ 256 ∧ i = .int .i64 k ∧ Blk wr w.heap.size 22 (byteRow 256 b) ∧ Blk wr (w.heap.size + 1) 24 (byteRow 256 (fun _ => 0)) ∧ Blk wr (w.heap.size + 1 + 1) 24 (byteRow 256 (fun i => if i < k then b i else 0)) ∧ Below w.heap.size w wr)
    (fun i _ => 256 - (intOf i).toNat)
  case atStart =>
    rw [zeroBox]
    exact ⟨0, by omega, rfl, ((Blk.new w _ _).alloc _).alloc _, (Blk.newAt (by simp)).alloc _, (Blk.newAt (by simp)).eq_ (byteRow_none _ _ _), (((Below.refl _ _).alloc (by omega) _).alloc (by simp) _).alloc (by simp; omega) _⟩
  case round =>
    obtain ⟨k, hk, rfl, h0, h1, h2, hb⟩ := hrel
    by_cases hlt : k < 256
    · have c0 := h0.byteAt hlt
      have c2 := h2.byteAt hlt
      have f2 := h2.frozen k
      have H0 := Lib.hid h0; clear h0; have H1 := Lib.hid h1; clear h1; have H2 := Lib.hid h2; clear h2; have Hb := Lib.hid hb; clear hb
      go_wp2
      go_roundw
      case rel => exact ⟨k + 1, by omega, by go_num, H0.out.farC (by omega) _, H1.out.farC (by omega) _, (H2.out.bytePut k _).eq_ (by rw [upd_fill]), Hb.out.setCell (by show _ ≤ _ + 1 + 1; omega) _⟩
      case measure => simp [intOf]; omega
    · have h2' := h2.eq_ (byteRow_full b _ hlt)
      clear h2
      have H0 := Lib.hid h0; clear h0; have H1 := Lib.hid h1; clear h1; have H2' := Lib.hid h2'; clear h2'; have Hb := Lib.hid hb; clear hb
      go_wp2_with (first | (refine wpList_loadR rfl _ _ rfl _ rfl H2'.out Try.underlying24 rfl size24 (byteRow_size _ _) ?_) | (refine wpList_storeR rfl _ _ _ rfl _ _ rfl rfl H1.out size24 (byteRow_size _ _) (byteRow_size _ _) (byteRow_all _ _) ?_))
      refine bodyPost_ret (results_cellB rfl _ _ _ rfl (H1.out.setRow _) Try.underlying24 rfl size24 (byteRow_size _ _)) rfl ⟨rfl, below_row Hb.out (by omega) _⟩
set_option maxRecDepth 100000 in
set_option maxHeartbeats 400000 in
theorem eqBox (b : Nat → UInt8) (w : World) :
    Calls Try.prog 29 #[.agg (byteRow 256 b), .agg (byteRow 256 b)] w fun e w' => e = .returned (.bool true) ∧ Below w.heap.size w w' := by
  go_enter Try.func29, Try.ntmps29
  go_wp2
  go_loopw [5] (fun i wr => ∃ k : Nat, k ≤ 256 ∧ i = .int .i64 k ∧ Blk wr w.heap.size 24 (byteRow 256 b) ∧ Blk wr (w.heap.size + 1) 24 (byteRow 256 b) ∧ Below w.heap.size w wr)
    (fun i _ => 256 - (intOf i).toNat)
  case atStart =>
    exact ⟨0, by omega, rfl, (Blk.new w _ _).alloc _, (Blk.newAt (by simp)), ((Below.refl _ _).alloc (by omega) _).alloc (by simp) _⟩
  case round =>
    obtain ⟨k, hk, rfl, h0, h1, hb⟩ := hrel
    by_cases hlt : k < 256
    · have c0 := h0.byteAt hlt
      have c1 := h1.byteAt hlt
      have H0 := Lib.hid h0; clear h0; have H1 := Lib.hid h1; clear h1; have Hb := Lib.hid hb; clear hb
      have hki : (k : Int) < 256 := by omega
      go_wp2
      go_quiet (fail)
      go_wp2
      go_roundw
      case rel => exact ⟨k + 1, by omega, by go_num, H0.out.drewN _, H1.out.drewN _, below_drewN' Hb.out _⟩
      case measure => simp [intOf]; omega
    · have H0 := Lib.hid h0; clear h0; have H1 := Lib.hid h1; clear h1; have Hb := Lib.hid hb; clear hb
      go_wp2
      go_ret
      exact ⟨rfl, Hb.out⟩
set_option maxRecDepth 100000 in
set_option maxHeartbeats 400000 in
theorem toBlock (b : Nat → UInt8) (w : World) :
    Calls Try.prog 39 #[.agg (byteRow 16 b)] w fun e w' => e = .returned (.agg (byteRow 16 b)) ∧ Below w.heap.size w w' := by
  go_enter Try.func39, Try.ntmps39
  go_wp2
  go_loopw [4] (fun i wr => ∃ k : Nat, k ≤ 16 ∧ i = .int .i64 k ∧ Blk wr w.heap.size 37 (byteRow 16 b) ∧ Blk wr (w.heap.size + 1) 48 (byteRow 16 (fun _ => 0)) ∧ Blk wr (w.heap.size + 1 + 1) 48 (byteRow 16 (fun i => if i < k then b i else 0)) ∧ Below w.heap.size w wr)
    (fun i _ => 16 - (intOf i).toNat)
  case atStart =>
    rw [zero16]
    exact ⟨0, by omega, rfl, ((Blk.new w _ _).alloc _).alloc _, (Blk.newAt (by simp)).alloc _, (Blk.newAt (by simp)).eq_ (byteRow_none _ _ _), (((Below.refl _ _).alloc (by omega) _).alloc (by simp) _).alloc (by simp; omega) _⟩
  case round =>
    obtain ⟨k, hk, rfl, h0, h1, h2, hb⟩ := hrel
    by_cases hlt : k < 16
    · have c0 := h0.byteAt hlt
      have c2 := h2.byteAt hlt
      have f2 := h2.frozen k
      have H0 := Lib.hid h0; clear h0; have H1 := Lib.hid h1; clear h1; have H2 := Lib.hid h2; clear h2; have Hb := Lib.hid hb; clear hb
      go_wp2
      go_roundw
      case rel => exact ⟨k + 1, by omega, by go_num, H0.out.farC (by omega) _, H1.out.farC (by omega) _, (H2.out.bytePut k _).eq_ (by rw [upd_fill]), Hb.out.setCell (by show _ ≤ _ + 1 + 1; omega) _⟩
      case measure => simp [intOf]; omega
    · have h2' := h2.eq_ (byteRow_full b _ hlt)
      clear h2
      have H0 := Lib.hid h0; clear h0; have H1 := Lib.hid h1; clear h1; have H2' := Lib.hid h2'; clear h2'; have Hb := Lib.hid hb; clear hb
      go_wp2_with (first | (refine wpList_loadR rfl _ _ rfl _ rfl H2'.out Try.underlying48 rfl size48 (byteRow_size _ _) ?_) | (refine wpList_storeR rfl _ _ _ rfl _ _ rfl rfl H1.out size48 (byteRow_size _ _) (byteRow_size _ _) (byteRow_all _ _) ?_))
      refine bodyPost_ret (results_cellB rfl _ _ _ rfl (H1.out.setRow _) Try.underlying48 rfl size48 (byteRow_size _ _)) rfl ⟨rfl, below_row Hb.out (by omega) _⟩
set_option maxRecDepth 100000 in
set_option maxHeartbeats 400000 in
theorem eqBlock (b : Nat → UInt8) (w : World) :
    Calls Try.prog 41 #[.agg (byteRow 16 b), .agg (byteRow 16 b)] w fun e w' => e = .returned (.bool true) ∧ Below w.heap.size w w' := by
  go_enter Try.func41, Try.ntmps41
  go_wp2
  go_loopw [5] (fun i wr => ∃ k : Nat, k ≤ 16 ∧ i = .int .i64 k ∧ Blk wr w.heap.size 48 (byteRow 16 b) ∧ Blk wr (w.heap.size + 1) 48 (byteRow 16 b) ∧ Below w.heap.size w wr)
    (fun i _ => 16 - (intOf i).toNat)
  case atStart =>
    exact ⟨0, by omega, rfl, (Blk.new w _ _).alloc _, (Blk.newAt (by simp)), ((Below.refl _ _).alloc (by omega) _).alloc (by simp) _⟩
  case round =>
    obtain ⟨k, hk, rfl, h0, h1, hb⟩ := hrel
    by_cases hlt : k < 16
    · have c0 := h0.byteAt hlt
      have c1 := h1.byteAt hlt
      have H0 := Lib.hid h0; clear h0; have H1 := Lib.hid h1; clear h1; have Hb := Lib.hid hb; clear hb
      have hki : (k : Int) < 16 := by omega
      go_wp2
      go_quiet (fail)
      go_wp2
      go_roundw
      case rel => exact ⟨k + 1, by omega, by go_num, H0.out.drewN _, H1.out.drewN _, below_drewN' Hb.out _⟩
      case measure => simp [intOf]; omega
    · have H0 := Lib.hid h0; clear h0; have H1 := Lib.hid h1; clear h1; have Hb := Lib.hid hb; clear hb
      go_wp2
      go_ret
      exact ⟨rfl, Hb.out⟩
set_option maxRecDepth 100000 in
set_option maxHeartbeats 400000 in
theorem toPlaces (b : Nat → UInt8) (w : World) :
    Calls Try.prog 31 #[.agg (byteRow 16 b)] w fun e w' => e = .returned (.agg (byteRow 16 b)) ∧ Below w.heap.size w w' := by
  go_enter Try.func31, Try.ntmps31
  go_wp2
  go_loopw [4] (fun i wr => ∃ k : Nat, k ≤ 16 ∧ i = .int .i64 k ∧ Blk wr w.heap.size 37 (byteRow 16 b) ∧ Blk wr (w.heap.size + 1) 38 (byteRow 16 (fun _ => 0)) ∧ Blk wr (w.heap.size + 1 + 1) 38 (byteRow 16 (fun i => if i < k then b i else 0)) ∧ Below w.heap.size w wr)
    (fun i _ => 16 - (intOf i).toNat)
  case atStart =>
    rw [zero16]
    exact ⟨0, by omega, rfl, ((Blk.new w _ _).alloc _).alloc _, (Blk.newAt (by simp)).alloc _, (Blk.newAt (by simp)).eq_ (byteRow_none _ _ _), (((Below.refl _ _).alloc (by omega) _).alloc (by simp) _).alloc (by simp; omega) _⟩
  case round =>
    obtain ⟨k, hk, rfl, h0, h1, h2, hb⟩ := hrel
    by_cases hlt : k < 16
    · have c0 := h0.byteAt hlt
      have c2 := h2.byteAt hlt
      have f2 := h2.frozen k
      have H0 := Lib.hid h0; clear h0; have H1 := Lib.hid h1; clear h1; have H2 := Lib.hid h2; clear h2; have Hb := Lib.hid hb; clear hb
      go_wp2
      go_roundw
      case rel => exact ⟨k + 1, by omega, by go_num, H0.out.farC (by omega) _, H1.out.farC (by omega) _, (H2.out.bytePut k _).eq_ (by rw [upd_fill]), Hb.out.setCell (by show _ ≤ _ + 1 + 1; omega) _⟩
      case measure => simp [intOf]; omega
    · have h2' := h2.eq_ (byteRow_full b _ hlt)
      clear h2
      have H0 := Lib.hid h0; clear h0; have H1 := Lib.hid h1; clear h1; have H2' := Lib.hid h2'; clear h2'; have Hb := Lib.hid hb; clear hb
      go_wp2_with (first | (refine wpList_loadR rfl _ _ rfl _ rfl H2'.out Try.underlying38 rfl size38 (byteRow_size _ _) ?_) | (refine wpList_storeR rfl _ _ _ rfl _ _ rfl rfl H1.out size38 (byteRow_size _ _) (byteRow_size _ _) (byteRow_all _ _) ?_))
      refine bodyPost_ret (results_cellB rfl _ _ _ rfl (H1.out.setRow _) Try.underlying38 rfl size38 (byteRow_size _ _)) rfl ⟨rfl, below_row Hb.out (by omega) _⟩
set_option maxRecDepth 100000 in
set_option maxHeartbeats 400000 in
theorem eqPlaces (b : Nat → UInt8) (w : World) :
    Calls Try.prog 33 #[.agg (byteRow 16 b), .agg (byteRow 16 b)] w fun e w' => e = .returned (.bool true) ∧ Below w.heap.size w w' := by
  go_enter Try.func33, Try.ntmps33
  go_wp2
  go_loopw [5] (fun i wr => ∃ k : Nat, k ≤ 16 ∧ i = .int .i64 k ∧ Blk wr w.heap.size 38 (byteRow 16 b) ∧ Blk wr (w.heap.size + 1) 38 (byteRow 16 b) ∧ Below w.heap.size w wr)
    (fun i _ => 16 - (intOf i).toNat)
  case atStart =>
    exact ⟨0, by omega, rfl, (Blk.new w _ _).alloc _, (Blk.newAt (by simp)), ((Below.refl _ _).alloc (by omega) _).alloc (by simp) _⟩
  case round =>
    obtain ⟨k, hk, rfl, h0, h1, hb⟩ := hrel
    by_cases hlt : k < 16
    · have c0 := h0.byteAt hlt
      have c1 := h1.byteAt hlt
      have H0 := Lib.hid h0; clear h0; have H1 := Lib.hid h1; clear h1; have Hb := Lib.hid hb; clear hb
      have hki : (k : Int) < 16 := by omega
      go_wp2
      go_quiet (fail)
      go_wp2
      go_roundw
      case rel => exact ⟨k + 1, by omega, by go_num, H0.out.drewN _, H1.out.drewN _, below_drewN' Hb.out _⟩
      case measure => simp [intOf]; omega
    · have H0 := Lib.hid h0; clear h0; have H1 := Lib.hid h1; clear h1; have Hb := Lib.hid hb; clear hb
      go_wp2
      go_ret
      exact ⟨rfl, Hb.out⟩
set_option maxRecDepth 100000 in
set_option maxHeartbeats 400000 in
theorem eqByteA4 (b : Nat → UInt8) (w : World) :
    Calls Try.prog 75 #[.agg (byteRow 4 b), .agg (byteRow 4 b)] w fun e w' => e = .returned (.bool true) ∧ Below w.heap.size w w' := by
  go_enter Try.func75, Try.ntmps75
  go_wp2
  go_loopw [5] (fun i wr => ∃ k : Nat, k ≤ 4 ∧ i = .int .i64 k ∧ Blk wr w.heap.size 59 (byteRow 4 b) ∧ Blk wr (w.heap.size + 1) 59 (byteRow 4 b) ∧ Below w.heap.size w wr)
    (fun i _ => 4 - (intOf i).toNat)
  case atStart =>
    exact ⟨0, by omega, rfl, (Blk.new w _ _).alloc _, (Blk.newAt (by simp)), ((Below.refl _ _).alloc (by omega) _).alloc (by simp) _⟩
  case round =>
    obtain ⟨k, hk, rfl, h0, h1, hb⟩ := hrel
    by_cases hlt : k < 4
    · have c0 := h0.byteAt hlt
      have c1 := h1.byteAt hlt
      have H0 := Lib.hid h0; clear h0; have H1 := Lib.hid h1; clear h1; have Hb := Lib.hid hb; clear hb
      have hki : (k : Int) < 4 := by omega
      go_wp2
      go_quiet (fail)
      go_wp2
      go_roundw
      case rel => exact ⟨k + 1, by omega, by go_num, H0.out.drewN _, H1.out.drewN _, below_drewN' Hb.out _⟩
      case measure => simp [intOf]; omega
    · have H0 := Lib.hid h0; clear h0; have H1 := Lib.hid h1; clear h1; have Hb := Lib.hid hb; clear hb
      go_wp2
      go_ret
      exact ⟨rfl, Hb.out⟩
end Go.Proofs.Ytdhlfbipljelcaa
