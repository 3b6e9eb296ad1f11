/- Contracts: the exclusive or of two blocks, by the program and by the reference. No condition. -/
import Derived.Test.YtphfiekhpicpgaaLaws
import Derived.Test.YtphfiekhpicpgaaPlain
namespace Go.Proofs.Ytphfiekhpicpgaa
open Go.RowKit Plain
theorem xor_step {n k : Nat} (a b : Nat → UInt8) : byteRow n (upd (fun i => if i < k then xorOf a b i else a i) k (a k ^^^ b k)) = byteRow n (fun i => if i < k + 1 then xorOf a b i else a i) := byteRow_congr fun i _ => by
  unfold upd
  by_cases h : i = k
  · subst h; simp [xorOf]
  · by_cases h2 : i < k
    · simp [h, h2, show i < k + 1 by omega]
    · simp [h, h2, show ¬ i < k + 1 by omega]
set_option maxRecDepth 100000 in
set_option maxHeartbeats 400000 in
theorem l01Xor (a b : Nat → UInt8) (w : World) :
    Calls Try.prog 74 #[.agg (byteRow 16 a), .agg (byteRow 16 b)] w fun e w' => e = .returned (.agg (byteRow 16 (xorOf a b))) ∧ Below w.heap.size w w' := by
  go_enter Try.func74, Try.ntmps74
  go_wp2
  go_loopw [5] (fun i wr => ∃ k : Nat, k ≤ 16 ∧ i = .int .i64 k ∧ Blk wr w.heap.size 55 (byteRow 16 (fun i => if i < k then xorOf a b i else a i)) ∧ Blk wr (w.heap.size + 1) 55 (byteRow 16 b) ∧ Blk wr (w.heap.size + 1 + 1) 55 (byteRow 16 (fun _ => 0)) ∧ Below w.heap.size w wr)
    (fun i _ => 16 - (intOf i).toNat)
  case atStart =>
    rw [zero16]
    exact ⟨0, by omega, rfl, (((Blk.new w _ _).alloc _).alloc _).eq_ (byteRow_congr fun i _ => by simp), (Blk.newAt (by simp)).alloc _, Blk.newAt (by simp), (((Below.refl _ _).alloc (by omega) _).alloc (by simp) _).alloc (by simp; omega) _⟩
  case round =>
    obtain ⟨k, hk, rfl, h0, h1, h2, hb⟩ := hrel
    by_cases hlt : k < 16
    · have hki : (k : Int) < 16 := by omega
      have c0 := h0.byteAt hlt
      rw [if_neg (Nat.lt_irrefl k)] at c0
      have c1 := h1.byteAt hlt
      have f0 := h0.frozen k
      have ex := b_xor (a k) (b k)
      have H0 := Lib.hid h0; clear h0; have H1 := Lib.hid h1; clear h1; have H2 := Lib.hid h2; clear h2; have Hb := Lib.hid hb; clear hb
      go_wp2
      go_region
      go_wp2
      go_roundw
      case rel => exact ⟨k + 1, by omega, by go_num, (H0.out.bytePut k (a k ^^^ b k)).eq_ (xor_step a b), H1.out.farC (by omega) _, H2.out.farC (by omega) _, (Hb.out.setCell (p := ⟨w.heap.size, k, none⟩) (Nat.le_refl _) _).drew⟩
      case measure => simp [intOf]; omega
    · have h0' := h0.eq_ (byteRow_full (xorOf a b) _ hlt)
      clear h0
      have H0' := Lib.hid h0'; clear h0'; have H1 := Lib.hid h1; clear h1; have H2 := Lib.hid h2; clear h2; have Hb := Lib.hid hb; clear hb
      go_wp2_with (first | (refine wpList_loadR rfl _ _ rfl _ rfl H0'.out Try.underlying55 rfl size55 (byteRow_size _ _) ?_) | (refine wpList_storeR rfl _ _ _ rfl _ _ rfl rfl H2.out size55 (byteRow_size _ _) (byteRow_size _ _) (byteRow_all _ _) ?_))
      refine bodyPost_ret (results_cellB rfl _ _ _ rfl (H2.out.setRow _) Try.underlying55 rfl size55 (byteRow_size _ _)) rfl ⟨rfl, below_row Hb.out (by omega) _⟩
set_option maxRecDepth 100000 in
set_option maxHeartbeats 400000 in
theorem specXorBlocks (a b : Nat → UInt8) (w : World) :
    Calls Try.prog 33 #[.agg (byteRow 16 a), .agg (byteRow 16 b)] w fun e w' => e = .returned (.agg (byteRow 16 (xorOf a b))) ∧ Below w.heap.size w w' := by
  go_enter Try.func33, Try.ntmps33
  go_wp2_with (first | (refine wpList_loadR rfl _ _ rfl _ rfl (((Blk.new w _ (byteRow 16 a)).alloc _).alloc _) Try.underlying55 rfl size55 (byteRow_size _ _) ?_) | (refine wpList_loadR rfl _ _ rfl _ rfl ((Blk.newAt (cs := byteRow 16 b) (w := w.alloc _) (by simp)).alloc _) Try.underlying55 rfl size55 (byteRow_size _ _) ?_))
  refine (l01Xor _ _ _).mono ?_
  rintro e wx ⟨rfl, hb⟩
  have k2 := Lib.hid (((Blk.newAt (w := (w.alloc _).alloc _) (n := w.heap.size + 1 + 1) (by simp)).eq_ zero16).below hb (by simp))
  have l := Lib.hid (((((Below.refl w.heap.size w).alloc (Nat.le_refl _) _).alloc (by simp) _).alloc (by simp; omega) _).trans (hb.mono (by simp; omega)))
  clear hb
  go_wp2_with (refine wpList_storeR rfl _ _ _ rfl _ _ rfl rfl k2.out size55 (byteRow_size _ _) (byteRow_size _ _) (byteRow_all _ _) ?_)
  refine bodyPost_ret (results_cellB rfl _ _ _ rfl (k2.out.setRow _) Try.underlying55 rfl size55 (byteRow_size _ _)) rfl ⟨rfl, below_row l.out (by omega) _⟩
set_option maxRecDepth 100000 in
set_option maxHeartbeats 400000 in
theorem implXorBlocks (a b : Nat → UInt8) (w : World) :
    Calls Try.prog 32 #[.agg (byteRow 16 a), .agg (byteRow 16 b)] w fun e w' => e = .returned (.agg (byteRow 16 (xorOf a b))) ∧ Below w.heap.size w w' := by
  go_enter Try.func32, Try.ntmps32
  go_wp2
  go_loopw [6] (fun i wr => ∃ k : Nat, k ≤ 16 ∧ i = .int .i64 k ∧ Blk wr w.heap.size 55 (byteRow 16 (fun i => if i < k then xorOf a b i else a i)) ∧ Blk wr (w.heap.size + 1) 55 (byteRow 16 b) ∧ Blk wr (w.heap.size + 1 + 1) 55 (byteRow 16 (fun _ => 0)) ∧ Below w.heap.size w wr)
    (fun i _ => 16 - (intOf i).toNat)
  case atStart =>
    rw [zero16]
    exact ⟨0, by omega, rfl, (((Blk.new w _ _).alloc _).alloc _).eq_ (byteRow_congr fun i _ => by simp), (Blk.newAt (by simp)).alloc _, Blk.newAt (by simp), (((Below.refl _ _).alloc (by omega) _).alloc (by simp) _).alloc (by simp; omega) _⟩
  case round =>
    obtain ⟨k, hk, rfl, h0, h1, h2, hb⟩ := hrel
    by_cases hlt : k < 16
    · have hki : (k : Int) < 16 := by omega
      have c0 := h0.byteAt hlt
      rw [if_neg (Nat.lt_irrefl k)] at c0
      have c1 := h1.byteAt hlt
      have f0 := h0.frozen k
      have ex := b_xor (a k) (b k)
      have H0 := Lib.hid h0; clear h0; have H1 := Lib.hid h1; clear h1; have H2 := Lib.hid h2; clear h2; have Hb := Lib.hid hb; clear hb
      go_wp2
      go_region
      go_wp2
      go_roundw
      case rel => exact ⟨k + 1, by omega, by go_num, (H0.out.bytePut k (a k ^^^ b k)).eq_ (xor_step a b), H1.out.farC (by omega) _, H2.out.farC (by omega) _, (Hb.out.setCell (p := ⟨w.heap.size, k, none⟩) (Nat.le_refl _) _).drew⟩
      case measure => simp [intOf]; omega
    · have h0' := h0.eq_ (byteRow_full (xorOf a b) _ hlt)
      clear h0
      have H0' := Lib.hid h0'; clear h0'; have H1 := Lib.hid h1; clear h1; have H2 := Lib.hid h2; clear h2; have Hb := Lib.hid hb; clear hb
      go_wp2_with (first | (refine wpList_loadR rfl _ _ rfl _ rfl H0'.out Try.underlying55 rfl size55 (byteRow_size _ _) ?_) | (refine wpList_storeR rfl _ _ _ rfl _ _ rfl rfl H2.out size55 (byteRow_size _ _) (byteRow_size _ _) (byteRow_all _ _) ?_))
      refine bodyPost_ret (results_cellB rfl _ _ _ rfl (H2.out.setRow _) Try.underlying55 rfl size55 (byteRow_size _ _)) rfl ⟨rfl, below_row Hb.out (by omega) _⟩
end Go.Proofs.Ytphfiekhpicpgaa
