/- Contracts of the helpers of the laws: copies of arrays, and that an array equals itself. No condition. -/
import Derived.Test.YtnkfghoajpghkaaTypes
namespace Go.Proofs.Ytnkfghoajpghkaa
open Go.RowKit
set_option maxRecDepth 100000 in
set_option maxHeartbeats 400000 in
theorem toBlock (b : Nat → UInt8) (w : World) :
    Calls Try.prog 72 #[.agg (byteRow 16 b)] w fun e w' => e = .returned (.agg (byteRow 16 b)) ∧ Below w.heap.size w w' := by
  go_enter Try.func72, Try.ntmps72
  go_wp2
  go_loopw [4] (fun i wr => ∃ k : Nat, k ≤ 16 ∧ i = .int .i64 k ∧ Blk wr w.heap.size 63 (byteRow 16 b) ∧ Blk wr (w.heap.size + 1) 89 (byteRow 16 (fun _ => 0)) ∧ Blk wr (w.heap.size + 1 + 1) 89 (byteRow 16 (fun i => if i < k then b i else 0)) ∧ Below w.heap.size w wr)
    (fun i _ => 16 - (intOf i).toNat)
  case atStart =>
    rw [zero16]
    exact ⟨0, by omega, rfl, ((Blk.new w _ _).alloc _).alloc _, (Blk.newAt (by simp)).alloc _, (Blk.newAt (by simp)).eq_ (byteRow_none _ _ _), (((Below.refl _ _).alloc (by omega) _).alloc (by simp) _).alloc (by simp; omega) _⟩
  case round =>
    obtain ⟨k, hk, rfl, h0, h1, h2, hb⟩ := hrel
    by_cases hlt : k < 16
    · have c0 := h0.byteAt hlt
      have c2 := h2.byteAt hlt
      have f2 := h2.frozen k
      have H0 := Lib.hid h0; clear h0; have H1 := Lib.hid h1; clear h1; have H2 := Lib.hid h2; clear h2; have Hb := Lib.hid hb; clear hb
      go_wp2
      go_roundw
      case rel => exact ⟨k + 1, by omega, by go_num, H0.out.farC (by omega) _, H1.out.farC (by omega) _, (H2.out.bytePut k _).eq_ (by rw [upd_fill]), Hb.out.setCell (by show _ ≤ _ + 1 + 1; omega) _⟩
      case measure => simp [intOf]; omega
    · have h2' := h2.eq_ (byteRow_full b _ hlt)
      clear h2
      have H0 := Lib.hid h0; clear h0; have H1 := Lib.hid h1; clear h1; have H2' := Lib.hid h2'; clear h2'; have Hb := Lib.hid hb; clear hb
      go_wp2_with (first | (refine wpList_loadR rfl _ _ rfl _ rfl H2'.out Try.underlying89 rfl size89 (byteRow_size _ _) ?_) | (refine wpList_storeR rfl _ _ _ rfl _ _ rfl rfl H1.out size89 (byteRow_size _ _) (byteRow_size _ _) (byteRow_all _ _) ?_))
      refine bodyPost_ret (results_cellB rfl _ _ _ rfl (H1.out.setRow _) Try.underlying89 rfl size89 (byteRow_size _ _)) rfl ⟨rfl, below_row Hb.out (by omega) _⟩
set_option maxRecDepth 100000 in
set_option maxHeartbeats 400000 in
theorem eqBlock (b : Nat → UInt8) (w : World) :
    Calls Try.prog 70 #[.agg (byteRow 16 b), .agg (byteRow 16 b)] w fun e w' => e = .returned (.bool true) ∧ Below w.heap.size w w' := by
  go_enter Try.func70, Try.ntmps70
  go_wp2
  go_loopw [5] (fun i wr => ∃ k : Nat, k ≤ 16 ∧ i = .int .i64 k ∧ Blk wr w.heap.size 89 (byteRow 16 b) ∧ Blk wr (w.heap.size + 1) 89 (byteRow 16 b) ∧ Below w.heap.size w wr)
    (fun i _ => 16 - (intOf i).toNat)
  case atStart =>
    exact ⟨0, by omega, rfl, (Blk.new w _ _).alloc _, (Blk.newAt (by simp)), ((Below.refl _ _).alloc (by omega) _).alloc (by simp) _⟩
  case round =>
    obtain ⟨k, hk, rfl, h0, h1, hb⟩ := hrel
    by_cases hlt : k < 16
    · have c0 := h0.byteAt hlt
      have c1 := h1.byteAt hlt
      have H0 := Lib.hid h0; clear h0; have H1 := Lib.hid h1; clear h1; have Hb := Lib.hid hb; clear hb
      have hki : (k : Int) < 16 := by omega
      go_wp2
      go_quiet (fail)
      go_wp2
      go_roundw
      case rel => exact ⟨k + 1, by omega, by go_num, H0.out.drewN _, H1.out.drewN _, below_drewN' Hb.out _⟩
      case measure => simp [intOf]; omega
    · have H0 := Lib.hid h0; clear h0; have H1 := Lib.hid h1; clear h1; have Hb := Lib.hid hb; clear hb
      go_wp2
      go_ret
      exact ⟨rfl, Hb.out⟩
set_option maxRecDepth 100000 in
set_option maxHeartbeats 400000 in
theorem toPlaces (b : Nat → UInt8) (w : World) :
    Calls Try.prog 44 #[.agg (byteRow 16 b)] w fun e w' => e = .returned (.agg (byteRow 16 b)) ∧ Below w.heap.size w w' := by
  go_enter Try.func44, Try.ntmps44
  go_wp2
  go_loopw [4] (fun i wr => ∃ k : Nat, k ≤ 16 ∧ i = .int .i64 k ∧ Blk wr w.heap.size 63 (byteRow 16 b) ∧ Blk wr (w.heap.size + 1) 67 (byteRow 16 (fun _ => 0)) ∧ Blk wr (w.heap.size + 1 + 1) 67 (byteRow 16 (fun i => if i < k then b i else 0)) ∧ Below w.heap.size w wr)
    (fun i _ => 16 - (intOf i).toNat)
  case atStart =>
    rw [zero16]
    exact ⟨0, by omega, rfl, ((Blk.new w _ _).alloc _).alloc _, (Blk.newAt (by simp)).alloc _, (Blk.newAt (by simp)).eq_ (byteRow_none _ _ _), (((Below.refl _ _).alloc (by omega) _).alloc (by simp) _).alloc (by simp; omega) _⟩
  case round =>
    obtain ⟨k, hk, rfl, h0, h1, h2, hb⟩ := hrel
    by_cases hlt : k < 16
    · have c0 := h0.byteAt hlt
      have c2 := h2.byteAt hlt
      have f2 := h2.frozen k
      have H0 := Lib.hid h0; clear h0; have H1 := Lib.hid h1; clear h1; have H2 := Lib.hid h2; clear h2; have Hb := Lib.hid hb; clear hb
      go_wp2
      go_roundw
      case rel => exact ⟨k + 1, by omega, by go_num, H0.out.farC (by omega) _, H1.out.farC (by omega) _, (H2.out.bytePut k _).eq_ (by rw [upd_fill]), Hb.out.setCell (by show _ ≤ _ + 1 + 1; omega) _⟩
      case measure => simp [intOf]; omega
    · have h2' := h2.eq_ (byteRow_full b _ hlt)
      clear h2
      have H0 := Lib.hid h0; clear h0; have H1 := Lib.hid h1; clear h1; have H2' := Lib.hid h2'; clear h2'; have Hb := Lib.hid hb; clear hb
      go_wp2_with (first | (refine wpList_loadR rfl _ _ rfl _ rfl H2'.out Try.underlying67 rfl size67 (byteRow_size _ _) ?_) | (refine wpList_storeR rfl _ _ _ rfl _ _ rfl rfl H1.out size67 (byteRow_size _ _) (byteRow_size _ _) (byteRow_all _ _) ?_))
      refine bodyPost_ret (results_cellB rfl _ _ _ rfl (H1.out.setRow _) Try.underlying67 rfl size67 (byteRow_size _ _)) rfl ⟨rfl, below_row Hb.out (by omega) _⟩
set_option maxRecDepth 100000 in
set_option maxHeartbeats 400000 in
theorem toByteA4 (b : Nat → UInt8) (w : World) :
    Calls Try.prog 54 #[.agg (byteRow 4 b)] w fun e w' => e = .returned (.agg (byteRow 4 b)) ∧ Below w.heap.size w w' := by
  go_enter Try.func54, Try.ntmps54
  go_wp2
  go_loopw [4] (fun i wr => ∃ k : Nat, k ≤ 4 ∧ i = .int .i64 k ∧ Blk wr w.heap.size 28 (byteRow 4 b) ∧ Blk wr (w.heap.size + 1) 28 (byteRow 4 (fun _ => 0)) ∧ Blk wr (w.heap.size + 1 + 1) 28 (byteRow 4 (fun i => if i < k then b i else 0)) ∧ Below w.heap.size w wr)
    (fun i _ => 4 - (intOf i).toNat)
  case atStart =>
    rw [zero4]
    exact ⟨0, by omega, rfl, ((Blk.new w _ _).alloc _).alloc _, (Blk.newAt (by simp)).alloc _, (Blk.newAt (by simp)).eq_ (byteRow_none _ _ _), (((Below.refl _ _).alloc (by omega) _).alloc (by simp) _).alloc (by simp; omega) _⟩
  case round =>
    obtain ⟨k, hk, rfl, h0, h1, h2, hb⟩ := hrel
    by_cases hlt : k < 4
    · have c0 := h0.byteAt hlt
      have c2 := h2.byteAt hlt
      have f2 := h2.frozen k
      have H0 := Lib.hid h0; clear h0; have H1 := Lib.hid h1; clear h1; have H2 := Lib.hid h2; clear h2; have Hb := Lib.hid hb; clear hb
      go_wp2
      go_roundw
      case rel => exact ⟨k + 1, by omega, by go_num, H0.out.farC (by omega) _, H1.out.farC (by omega) _, (H2.out.bytePut k _).eq_ (by rw [upd_fill]), Hb.out.setCell (by show _ ≤ _ + 1 + 1; omega) _⟩
      case measure => simp [intOf]; omega
    · have h2' := h2.eq_ (byteRow_full b _ hlt)
      clear h2
      have H0 := Lib.hid h0; clear h0; have H1 := Lib.hid h1; clear h1; have H2' := Lib.hid h2'; clear h2'; have Hb := Lib.hid hb; clear hb
      go_wp2_with (first | (refine wpList_loadR rfl _ _ rfl _ rfl H2'.out Try.underlying28 rfl size28 (byteRow_size _ _) ?_) | (refine wpList_storeR rfl _ _ _ rfl _ _ rfl rfl H1.out size28 (byteRow_size _ _) (byteRow_size _ _) (byteRow_all _ _) ?_))
      refine bodyPost_ret (results_cellB rfl _ _ _ rfl (H1.out.setRow _) Try.underlying28 rfl size28 (byteRow_size _ _)) rfl ⟨rfl, below_row Hb.out (by omega) _⟩
set_option maxRecDepth 100000 in
set_option maxHeartbeats 400000 in
theorem eqByteA4 (b : Nat → UInt8) (w : World) :
    Calls Try.prog 56 #[.agg (byteRow 4 b), .agg (byteRow 4 b)] w fun e w' => e = .returned (.bool true) ∧ Below w.heap.size w w' := by
  go_enter Try.func56, Try.ntmps56
  go_wp2
  go_loopw [5] (fun i wr => ∃ k : Nat, k ≤ 4 ∧ i = .int .i64 k ∧ Blk wr w.heap.size 28 (byteRow 4 b) ∧ Blk wr (w.heap.size + 1) 28 (byteRow 4 b) ∧ Below w.heap.size w wr)
    (fun i _ => 4 - (intOf i).toNat)
  case atStart =>
    exact ⟨0, by omega, rfl, (Blk.new w _ _).alloc _, (Blk.newAt (by simp)), ((Below.refl _ _).alloc (by omega) _).alloc (by simp) _⟩
  case round =>
    obtain ⟨k, hk, rfl, h0, h1, hb⟩ := hrel
    by_cases hlt : k < 4
    · have c0 := h0.byteAt hlt
      have c1 := h1.byteAt hlt
      have H0 := Lib.hid h0; clear h0; have H1 := Lib.hid h1; clear h1; have Hb := Lib.hid hb; clear hb
      have hki : (k : Int) < 4 := by omega
      go_wp2
      go_quiet (fail)
      go_wp2
      go_roundw
      case rel => exact ⟨k + 1, by omega, by go_num, H0.out.drewN _, H1.out.drewN _, below_drewN' Hb.out _⟩
      case measure => simp [intOf]; omega
    · have H0 := Lib.hid h0; clear h0; have H1 := Lib.hid h1; clear h1; have Hb := Lib.hid hb; clear hb
      go_wp2
      go_ret
      exact ⟨rfl, Hb.out⟩
end Go.Proofs.Ytnkfghoajpghkaa
