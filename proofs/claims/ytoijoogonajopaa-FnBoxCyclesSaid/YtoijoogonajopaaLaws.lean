/- Contracts of the helpers of the laws: copies of arrays, and that an array equals itself. No condition. -/
import Derived.Test.YtoijoogonajopaaTypes
namespace Go.Proofs.Ytoijoogonajopaa
open Go.RowKit
set_option maxRecDepth 100000 in
set_option maxHeartbeats 400000 in
theorem toBox (b : Nat → UInt8) (w : World) :
    Calls Try.prog 7 #[.agg (byteRow 256 b)] w fun e w' => e = .returned (.agg (byteRow 256 b)) ∧ Below w.heap.size w w' := by
  go_enter Try.func7, Try.ntmps7
  go_wp2
  go_loopw [4] (fun i wr => ∃ k : Nat, k ≤ 256 ∧ i = .int .i64 k ∧ Blk wr w.heap.size 22 (byteRow 256 b) ∧ Blk wr (w.heap.size + 1) 25 (byteRow 256 (fun _ => 0)) ∧ Blk wr (w.heap.size + 1 + 1) 25 (byteRow 256 (fun i => if i < k then b i else 0)) ∧ Below w.heap.size w wr)
    (fun i _ => 256 - (intOf i).toNat)
  case atStart =>
    rw [zeroBox]
    exact ⟨0, by omega, rfl, ((Blk.new w _ _).alloc _).alloc _, (Blk.newAt (by simp)).alloc _, (Blk.newAt (by simp)).eq_ (byteRow_none _ _ _), (((Below.refl _ _).alloc (by omega) _).alloc (by simp) _).alloc (by simp; omega) _⟩
  case round =>
    obtain ⟨k, hk, rfl, h0, h1, h2, hb⟩ := hrel
    by_cases hlt : k < 256
    · have c0 := h0.byteAt hlt
      have c2 := h2.byteAt hlt
      have f2 := h2.frozen k
      have H0 := Lib.hid h0; clear h0; have H1 := Lib.hid h1; clear h1; have H2 := Lib.hid h2; clear h2; have Hb := Lib.hid hb; clear hb
      go_wp2
      go_roundw
      case rel => exact ⟨k + 1, by omega, by go_num, H0.out.farC (by omega) _, H1.out.farC (by omega) _, (H2.out.bytePut k _).eq_ (by rw [upd_fill]), Hb.out.setCell (by show _ ≤ _ + 1 + 1; omega) _⟩
      case measure => simp [intOf]; omega
    · have h2' := h2.eq_ (byteRow_full b _ hlt)
      clear h2
      have H0 := Lib.hid h0; clear h0; have H1 := Lib.hid h1; clear h1; have H2' := Lib.hid h2'; clear h2'; have Hb := Lib.hid hb; clear hb
      go_wp2_with (first | (refine wpList_loadR rfl _ _ rfl _ rfl H2'.out Try.underlying25 rfl size25 (byteRow_size _ _) ?_) | (refine wpList_storeR rfl _ _ _ rfl _ _ rfl rfl H1.out size25 (byteRow_size _ _) (byteRow_size _ _) (byteRow_all _ _) ?_))
      refine bodyPost_ret (results_cellB rfl _ _ _ rfl (H1.out.setRow _) Try.underlying25 rfl size25 (byteRow_size _ _)) rfl ⟨rfl, below_row Hb.out (by omega) _⟩
end Go.Proofs.Ytoijoogonajopaa
