/- Contracts: composition and inverses of boxes, by the program and by the reference. No condition. -/
import Derived.Test.YtphfiekhpicpgaaPerm
namespace Go.Proofs.Ytphfiekhpicpgaa
open Go.RowKit Plain
theorem ret_pair {a b : Array Value} {n m : Int} (h : a = b) (h2 : n = m) : Ending.returned (.tuple #[.agg a, .int .i64 n]) = .returned (.tuple #[.agg b, .int .i64 m]) := by rw [h, h2]
theorem then_step {n k : Nat} (b c : Nat → UInt8) : byteRow n (upd (fun i => if i < k then thenOf b c i else b i) k (thenOf b c k)) = byteRow n (fun i => if i < k + 1 then thenOf b c i else b i) := byteRow_congr fun i _ => by
  unfold upd
  by_cases h : i = k
  · subst h; simp
  · by_cases h2 : i < k
    · simp [h, h2, show i < k + 1 by omega]
    · simp [h, h2, show ¬ i < k + 1 by omega]
set_option maxRecDepth 100000 in
set_option maxHeartbeats 400000 in
theorem l02Then (b c : Nat → UInt8) (w : World) :
    Calls Try.prog 94 #[.agg (byteRow 256 b), .agg (byteRow 256 c)] w fun e w' => e = .returned (.agg (byteRow 256 (thenOf b c))) ∧ Below w.heap.size w w' := by
  go_enter Try.func94, Try.ntmps94
  go_wp2_with (first | (refine wpList_buildZ rfl _ rfl builtBox ?_) | (refine wpList_storeR rfl _ _ _ rfl _ _ rfl rfl ((Blk.newAt (by simp)).eq_ zeroBox) size27 (byteRow_size _ _) (byteRow_size _ _) (byteRow_all _ _) ?_))
  go_loopw [6] (fun i wr => ∃ k : Nat, k ≤ 256 ∧ i = .int .i64 k ∧ Blk wr w.heap.size 27 (byteRow 256 b) ∧ Blk wr (w.heap.size + 1) 27 (byteRow 256 c) ∧ Blk wr (w.heap.size + 1 + 1) 27 (byteRow 256 (fun _ => 0)) ∧ Blk wr (w.heap.size + 1 + 1 + 1) 27 (byteRow 256 (fun i => if i < k then thenOf b c i else 0)) ∧ Below w.heap.size w wr)
    (fun i _ => 256 - (intOf i).toNat)
  case atStart =>
    rw [zeroBox]
    exact ⟨0, by omega, rfl, ((((Blk.new w _ _).alloc _).alloc _).alloc _).rowFar (by omega) _, (((Blk.newAt (w := w.alloc _) (by simp)).alloc _).alloc _).rowFar (by omega) _, ((Blk.newAt (w := (w.alloc _).alloc _) (by simp)).alloc _).rowFar (by omega) _,
      ((Blk.newAt (w := ((w.alloc _).alloc _).alloc _) (by simp)).setRow _).eq_ (byteRow_none _ _ _), below_row (((((Below.refl _ _).alloc (by omega) _).alloc (by simp) _).alloc (by simp; omega) _).alloc (by simp; omega) _) (by omega) _⟩
  case round =>
    obtain ⟨k, hk, rfl, h0, h1, h2, h3, hb⟩ := hrel
    by_cases hlt : k < 256
    · have c0 := h0.byteAt hlt
      have hbl := (b k).toNat_lt
      have c1 := h1.byteAt hbl
      have c3 := h3.byteAt hlt
      have f3 := h3.frozen k
      have H0 := Lib.hid h0; clear h0; have H1 := Lib.hid h1; clear h1; have H2 := Lib.hid h2; clear h2; have H3 := Lib.hid h3; clear h3; have Hb := Lib.hid hb; clear hb
      go_wp2
      go_roundw
      case rel => exact ⟨k + 1, by omega, by go_num, H0.out.farC (by omega) _, H1.out.farC (by omega) _, H2.out.farC (by omega) _, (H3.out.bytePut k (c (b k).toNat)).eq_ (congrArg _ (upd_fill (thenOf b c) 0 k)), Hb.out.setCell (by show _ ≤ _ + 1 + 1 + 1; omega) _⟩
      case measure => simp [intOf]; omega
    · have h3' := h3.eq_ (byteRow_full (thenOf b c) _ hlt)
      clear h3
      have H0 := Lib.hid h0; clear h0; have H1 := Lib.hid h1; clear h1; have H2 := Lib.hid h2; clear h2; have H3' := Lib.hid h3'; clear h3'; have Hb := Lib.hid hb; clear hb
      go_wp2_with (first | (refine wpList_loadR rfl _ _ rfl _ rfl H3'.out Try.underlying27 rfl size27 (byteRow_size _ _) ?_) | (refine wpList_storeR rfl _ _ _ rfl _ _ rfl rfl H2.out size27 (byteRow_size _ _) (byteRow_size _ _) (byteRow_all _ _) ?_))
      refine bodyPost_ret (results_cellB rfl _ _ _ rfl (H2.out.setRow _) Try.underlying27 rfl size27 (byteRow_size _ _)) rfl ⟨rfl, below_row Hb.out (by omega) _⟩
set_option maxRecDepth 100000 in
set_option maxHeartbeats 400000 in
theorem implComposeBoxes (b c : Nat → UInt8) (w : World) :
    Calls Try.prog 15 #[.agg (byteRow 256 b), .agg (byteRow 256 c)] w fun e w' => e = .returned (.agg (byteRow 256 (thenOf b c))) ∧ Below w.heap.size w w' := by
  go_enter Try.func15, Try.ntmps15
  have k0 := Lib.hid (((Blk.new w 27 (byteRow 256 b)).alloc (.cells (byteRow 256 c) 27)).alloc (.cells Try.zeroCells27 27))
  go_wp2_with (refine wpList_loadH rfl _ _ rfl _ rfl (by assumption) Try.underlying27 rfl size27 (byteRow_size _ _) ?_)
  go_loopw [8] (fun i wr => ∃ k : Nat, k ≤ 256 ∧ i = .int .i64 k ∧ Blk wr w.heap.size 27 (byteRow 256 (fun i => if i < k then thenOf b c i else b i)) ∧ Blk wr (w.heap.size + 1) 27 (byteRow 256 c) ∧ Blk wr (w.heap.size + 1 + 1) 27 (byteRow 256 (fun _ => 0)) ∧ Below w.heap.size w wr)
    (fun i _ => 256 - (intOf i).toNat)
  case atStart =>
    rw [zeroBox]
    exact ⟨0, by omega, rfl, (((Blk.new w _ _).alloc _).alloc _).eq_ (byteRow_congr fun i _ => by simp), (Blk.newAt (w := w.alloc _) (by simp)).alloc _, Blk.newAt (w := (w.alloc _).alloc _) (by simp),
      (((Below.refl _ _).alloc (by omega) _).alloc (by simp) _).alloc (by simp; omega) _⟩
  case round =>
    obtain ⟨k, hk, rfl, h0, h1, h2, hb⟩ := hrel
    by_cases hlt : k < 256
    · have c0 := h0.byteAt hlt
      have f0 := h0.frozen k
      have hbl := (b k).toNat_lt
      have c1 := h1.byteAt hbl
      have ix := fun (w : World) => run_index_row (w := w) .i64 Try.underlying27 sizeU1 (.inl Try.underlying5) hlt (byteRow_at b hlt)
      have H0 := Lib.hid h0; clear h0; have H1 := Lib.hid h1; clear h1; have H2 := Lib.hid h2; clear h2; have Hb := Lib.hid hb; clear hb
      clear k0
      go_wp2
      go_roundw
      case rel => exact ⟨k + 1, by omega, by go_num, (H0.out.bytePut k (c (b k).toNat)).eq_ (then_step b c), H1.out.farC (by omega) _, H2.out.farC (by omega) _, Hb.out.setCell (Nat.le_refl _) _⟩
      case measure => simp [intOf]; omega
    · have h0' := h0.eq_ (byteRow_full (thenOf b c) _ hlt)
      clear h0
      have H0' := Lib.hid h0'; clear h0'; have H1 := Lib.hid h1; clear h1; have H2 := Lib.hid h2; clear h2; have Hb := Lib.hid hb; clear hb
      go_wp2_with (first | (refine wpList_loadR rfl _ _ rfl _ rfl H0'.out Try.underlying27 rfl size27 (byteRow_size _ _) ?_) | (refine wpList_storeR rfl _ _ _ rfl _ _ rfl rfl H2.out size27 (byteRow_size _ _) (byteRow_size _ _) (byteRow_all _ _) ?_))
      refine bodyPost_ret (results_cellB rfl _ _ _ rfl (H2.out.setRow _) Try.underlying27 rfl size27 (byteRow_size _ _)) rfl ⟨rfl, below_row Hb.out (by omega) _⟩
end Go.Proofs.Ytphfiekhpicpgaa
