/- Contracts: composition and inverses of boxes, by the program and by the reference. No condition. -/
import Derived.Test.YtbbmcpbdcdffeaaPerm
namespace Go.Proofs.Ytbbmcpbdcdffeaa
open Go.RowKit Plain
theorem ret_pair {a b : Array Value} {n m : Int} (h : a = b) (h2 : n = m) : Ending.returned (.tuple #[.agg a, .int .i64 n]) = .returned (.tuple #[.agg b, .int .i64 m]) := by rw [h, h2]
theorem then_step {n k : Nat} (b c : Nat → UInt8) : byteRow n (upd (fun i => if i < k then thenOf b c i else b i) k (thenOf b c k)) = byteRow n (fun i => if i < k + 1 then thenOf b c i else b i) := byteRow_congr fun i _ => by
  unfold upd
  by_cases h : i = k
  · subst h; simp
  · by_cases h2 : i < k
    · simp [h, h2, show i < k + 1 by omega]
    · simp [h, h2, show ¬ i < k + 1 by omega]
set_option maxRecDepth 100000 in
set_option maxHeartbeats 400000 in
theorem l02Then (b c : Nat → UInt8) (w : World) :
    Calls Try.prog 50 #[.agg (byteRow 256 b), .agg (byteRow 256 c)] w fun e w' => e = .returned (.agg (byteRow 256 (thenOf b c))) ∧ Below w.heap.size w w' := by
  go_enter Try.func50, Try.ntmps50
  go_wp2_with (first | (refine wpList_buildZ rfl _ rfl builtBox ?_) | (refine wpList_storeR rfl _ _ _ rfl _ _ rfl rfl ((Blk.newAt (by simp)).eq_ zeroBox) size25 (byteRow_size _ _) (byteRow_size _ _) (byteRow_all _ _) ?_))
  go_loopw [6] (fun i wr => ∃ k : Nat, k ≤ 256 ∧ i = .int .i64 k ∧ Blk wr w.heap.size 25 (byteRow 256 b) ∧ Blk wr (w.heap.size + 1) 25 (byteRow 256 c) ∧ Blk wr (w.heap.size + 1 + 1) 25 (byteRow 256 (fun _ => 0)) ∧ Blk wr (w.heap.size + 1 + 1 + 1) 25 (byteRow 256 (fun i => if i < k then thenOf b c i else 0)) ∧ Below w.heap.size w wr)
    (fun i _ => 256 - (intOf i).toNat)
  case atStart =>
    rw [zeroBox]
    exact ⟨0, by omega, rfl, ((((Blk.new w _ _).alloc _).alloc _).alloc _).rowFar (by omega) _, (((Blk.newAt (w := w.alloc _) (by simp)).alloc _).alloc _).rowFar (by omega) _, ((Blk.newAt (w := (w.alloc _).alloc _) (by simp)).alloc _).rowFar (by omega) _,
      ((Blk.newAt (w := ((w.alloc _).alloc _).alloc _) (by simp)).setRow _).eq_ (byteRow_none _ _ _), below_row (((((Below.refl _ _).alloc (by omega) _).alloc (by simp) _).alloc (by simp; omega) _).alloc (by simp; omega) _) (by omega) _⟩
  case round =>
    obtain ⟨k, hk, rfl, h0, h1, h2, h3, hb⟩ := hrel
    by_cases hlt : k < 256
    · have c0 := h0.byteAt hlt
      have hbl := (b k).toNat_lt
      have c1 := h1.byteAt hbl
      have c3 := h3.byteAt hlt
      have f3 := h3.frozen k
      have H0 := Lib.hid h0; clear h0; have H1 := Lib.hid h1; clear h1; have H2 := Lib.hid h2; clear h2; have H3 := Lib.hid h3; clear h3; have Hb := Lib.hid hb; clear hb
      go_wp2
      go_roundw
      case rel => exact ⟨k + 1, by omega, by go_num, H0.out.farC (by omega) _, H1.out.farC (by omega) _, H2.out.farC (by omega) _, (H3.out.bytePut k (c (b k).toNat)).eq_ (congrArg _ (upd_fill (thenOf b c) 0 k)), Hb.out.setCell (by show _ ≤ _ + 1 + 1 + 1; omega) _⟩
      case measure => simp [intOf]; omega
    · have h3' := h3.eq_ (byteRow_full (thenOf b c) _ hlt)
      clear h3
      have H0 := Lib.hid h0; clear h0; have H1 := Lib.hid h1; clear h1; have H2 := Lib.hid h2; clear h2; have H3' := Lib.hid h3'; clear h3'; have Hb := Lib.hid hb; clear hb
      go_wp2_with (first | (refine wpList_loadR rfl _ _ rfl _ rfl H3'.out Try.underlying25 rfl size25 (byteRow_size _ _) ?_) | (refine wpList_storeR rfl _ _ _ rfl _ _ rfl rfl H2.out size25 (byteRow_size _ _) (byteRow_size _ _) (byteRow_all _ _) ?_))
      refine bodyPost_ret (results_cellB rfl _ _ _ rfl (H2.out.setRow _) Try.underlying25 rfl size25 (byteRow_size _ _)) rfl ⟨rfl, below_row Hb.out (by omega) _⟩
set_option maxRecDepth 100000 in
set_option maxHeartbeats 400000 in
theorem specComposeBoxes (b c : Nat → UInt8) (w : World) :
    Calls Try.prog 26 #[.agg (byteRow 256 b), .agg (byteRow 256 c)] w fun e w' => e = .returned (.agg (byteRow 256 (thenOf b c))) ∧ Below w.heap.size w w' := by
  go_enter Try.func26, Try.ntmps26
  have k0 := Lib.hid (((Blk.new w 25 (byteRow 256 b)).alloc (.cells (byteRow 256 c) 25)).alloc (.cells Try.zeroCells25 25))
  have k1 := Lib.hid ((Blk.newAt (t := 25) (cs := byteRow 256 c) (w := w.alloc (.cells (byteRow 256 b) 25)) (n := w.heap.size + 1) (by simp)).alloc (.cells Try.zeroCells25 25))
  have k2 := Lib.hid ((Blk.newAt (t := 25) (cs := Try.zeroCells25) (w := (w.alloc (.cells (byteRow 256 b) 25)).alloc (.cells (byteRow 256 c) 25)) (n := w.heap.size + 1 + 1) (by simp)).eq_ zeroBox)
  have l := Lib.hid ((((Below.refl w.heap.size w).alloc (Nat.le_refl _) (.cells (byteRow 256 b) 25)).alloc (by simp) (.cells (byteRow 256 c) 25)).alloc (by simp; omega) (.cells Try.zeroCells25 25))
  go_wp2_with (refine wpList_loadH rfl _ _ rfl _ rfl (by assumption) Try.underlying25 rfl size25 (byteRow_size _ _) ?_)
  refine (l02Then _ _ _).mono ?_
  rintro e wx ⟨rfl, hb⟩
  have k2 := carryB k2 hb
  have l := carryS l hb
  clear hb
  go_wp2_with (refine wpList_storeR rfl _ _ _ rfl _ _ rfl rfl k2.out size25 (byteRow_size _ _) (byteRow_size _ _) (byteRow_all _ _) ?_)
  refine bodyPost_ret (results_cellB rfl _ _ _ rfl (k2.out.setRow _) Try.underlying25 rfl size25 (byteRow_size _ _)) rfl ⟨rfl, below_row l.out (by omega) _⟩
set_option maxRecDepth 100000 in
set_option maxHeartbeats 400000 in
theorem implComposeBoxes (b c : Nat → UInt8) (w : World) :
    Calls Try.prog 27 #[.agg (byteRow 256 b), .agg (byteRow 256 c)] w fun e w' => e = .returned (.agg (byteRow 256 (thenOf b c))) ∧ Below w.heap.size w w' := by
  go_enter Try.func27, Try.ntmps27
  have k0 := Lib.hid (((Blk.new w 25 (byteRow 256 b)).alloc (.cells (byteRow 256 c) 25)).alloc (.cells Try.zeroCells25 25))
  go_wp2_with (refine wpList_loadH rfl _ _ rfl _ rfl (by assumption) Try.underlying25 rfl size25 (byteRow_size _ _) ?_)
  go_loopw [8] (fun i wr => ∃ k : Nat, k ≤ 256 ∧ i = .int .i64 k ∧ Blk wr w.heap.size 25 (byteRow 256 (fun i => if i < k then thenOf b c i else b i)) ∧ Blk wr (w.heap.size + 1) 25 (byteRow 256 c) ∧ Blk wr (w.heap.size + 1 + 1) 25 (byteRow 256 (fun _ => 0)) ∧ Below w.heap.size w wr)
    (fun i _ => 256 - (intOf i).toNat)
  case atStart =>
    rw [zeroBox]
    exact ⟨0, by omega, rfl, (((Blk.new w _ _).alloc _).alloc _).eq_ (byteRow_congr fun i _ => by simp), (Blk.newAt (w := w.alloc _) (by simp)).alloc _, Blk.newAt (w := (w.alloc _).alloc _) (by simp),
      (((Below.refl _ _).alloc (by omega) _).alloc (by simp) _).alloc (by simp; omega) _⟩
  case round =>
    obtain ⟨k, hk, rfl, h0, h1, h2, hb⟩ := hrel
    by_cases hlt : k < 256
    · have c0 := h0.byteAt hlt
      have f0 := h0.frozen k
      have hbl := (b k).toNat_lt
      have c1 := h1.byteAt hbl
      have ix := fun (w : World) => run_index_row (w := w) .i64 Try.underlying25 sizeU1 (.inl Try.underlying5) hlt (byteRow_at b hlt)
      have H0 := Lib.hid h0; clear h0; have H1 := Lib.hid h1; clear h1; have H2 := Lib.hid h2; clear h2; have Hb := Lib.hid hb; clear hb
      clear k0
      go_wp2
      go_roundw
      case rel => exact ⟨k + 1, by omega, by go_num, (H0.out.bytePut k (c (b k).toNat)).eq_ (then_step b c), H1.out.farC (by omega) _, H2.out.farC (by omega) _, Hb.out.setCell (Nat.le_refl _) _⟩
      case measure => simp [intOf]; omega
    · have h0' := h0.eq_ (byteRow_full (thenOf b c) _ hlt)
      clear h0
      have H0' := Lib.hid h0'; clear h0'; have H1 := Lib.hid h1; clear h1; have H2 := Lib.hid h2; clear h2; have Hb := Lib.hid hb; clear hb
      go_wp2_with (first | (refine wpList_loadR rfl _ _ rfl _ rfl H0'.out Try.underlying25 rfl size25 (byteRow_size _ _) ?_) | (refine wpList_storeR rfl _ _ _ rfl _ _ rfl rfl H2.out size25 (byteRow_size _ _) (byteRow_size _ _) (byteRow_all _ _) ?_))
      refine bodyPost_ret (results_cellB rfl _ _ _ rfl (H2.out.setRow _) Try.underlying25 rfl size25 (byteRow_size _ _)) rfl ⟨rfl, below_row Hb.out (by omega) _⟩
set_option maxRecDepth 100000 in
set_option maxHeartbeats 400000 in
theorem l02Inverse (b : Nat → UInt8) (w : World) :
    Calls Try.prog 60 #[.agg (byteRow 256 b)] w fun e w' => e = .returned (.agg (byteRow 256 (invOf b))) ∧ Below w.heap.size w w' := by
  go_enter Try.func60, Try.ntmps60
  go_wp2_with (first | (refine wpList_buildZ rfl _ rfl builtBox ?_) | (refine wpList_storeR rfl _ _ _ rfl _ _ rfl rfl ((Blk.newAt (by simp)).eq_ zeroBox) size25 (byteRow_size _ _) (byteRow_size _ _) (byteRow_all _ _) ?_))
  go_loopw [4] (fun i wr => ∃ k : Nat, k ≤ 256 ∧ i = .int .i64 k ∧ Blk wr w.heap.size 25 (byteRow 256 b) ∧ Blk wr (w.heap.size + 1) 25 (byteRow 256 (fun _ => 0)) ∧ Blk wr (w.heap.size + 1 + 1) 25 (byteRow 256 (invTo b k)) ∧ Below w.heap.size w wr)
    (fun i _ => 256 - (intOf i).toNat)
  case atStart =>
    rw [zeroBox]
    exact ⟨0, by omega, rfl, (((Blk.new w _ _).alloc _).alloc _).rowFar (by omega) _, ((Blk.newAt (w := w.alloc _) (by simp)).alloc _).rowFar (by omega) _,
      (Blk.newAt (w := (w.alloc _).alloc _) (by simp)).setRow _, below_row ((((Below.refl _ _).alloc (by omega) _).alloc (by simp) _).alloc (by simp; omega) _) (by omega) _⟩
  case round =>
    obtain ⟨k, hk, rfl, h0, h1, h2, hb⟩ := hrel
    by_cases hlt : k < 256
    · have c0 := h0.byteAt hlt
      have hbl := (b k).toNat_lt
      have c2 := h2.byteAt hbl
      have f2 := h2.frozen (b k).toNat
      have H0 := Lib.hid h0; clear h0; have H1 := Lib.hid h1; clear h1; have H2 := Lib.hid h2; clear h2; have Hb := Lib.hid hb; clear hb
      go_wp2
      go_roundw
      case rel => exact ⟨k + 1, by omega, by go_num, H0.out.farC (by omega) _, H1.out.farC (by omega) _, (H2.out.bytePutN (b k).toNat hlt).eq_ rfl, Hb.out.setCell (by show _ ≤ _ + 1 + 1; omega) _⟩
      case measure => simp [intOf]; omega
    · obtain rfl : k = 256 := by omega
      have H0 := Lib.hid h0; clear h0; have H1 := Lib.hid h1; clear h1; have H2 := Lib.hid h2; clear h2; have Hb := Lib.hid hb; clear hb
      go_wp2_with (first | (refine wpList_loadR rfl _ _ rfl _ rfl H2.out Try.underlying25 rfl size25 (byteRow_size _ _) ?_) | (refine wpList_storeR rfl _ _ _ rfl _ _ rfl rfl H1.out size25 (byteRow_size _ _) (byteRow_size _ _) (byteRow_all _ _) ?_))
      refine bodyPost_ret (results_cellB rfl _ _ _ rfl (H1.out.setRow _) Try.underlying25 rfl size25 (byteRow_size _ _)) rfl ⟨rfl, below_row Hb.out (by omega) _⟩
set_option maxRecDepth 100000 in
set_option maxHeartbeats 400000 in
theorem boxInverse (b : Nat → UInt8) (w : World) :
    Calls Try.prog 61 #[.agg (byteRow 256 b)] w fun e w' => e = .returned (.agg (byteRow 256 (invOf b))) ∧ Below w.heap.size w w' := by
  go_enter Try.func61, Try.ntmps61
  go_wp2_with (first | (refine wpList_buildZ rfl _ rfl builtBox ?_) | (refine wpList_storeR rfl _ _ _ rfl _ _ rfl rfl ((Blk.newAt (by simp)).eq_ zeroBox) size25 (byteRow_size _ _) (byteRow_size _ _) (byteRow_all _ _) ?_) | (refine wpList_loadR rfl _ _ rfl _ rfl ((((Blk.new w _ _).alloc _).alloc _).rowFar (by omega) _) Try.underlying25 rfl size25 (byteRow_size _ _) ?_))
  go_loopw [8] (fun i wr => ∃ k : Nat, k ≤ 256 ∧ i = .int .i64 k ∧ Blk wr (w.heap.size + 1) 25 (byteRow 256 (fun _ => 0)) ∧ Blk wr (w.heap.size + 1 + 1) 25 (byteRow 256 (invTo b k)) ∧ Below w.heap.size w wr)
    (fun i _ => 256 - (intOf i).toNat)
  case atStart =>
    rw [zeroBox]
    exact ⟨0, by omega, rfl, ((Blk.newAt (w := w.alloc _) (by simp)).alloc _).rowFar (by omega) _,
      (Blk.newAt (w := (w.alloc _).alloc _) (by simp)).setRow _, below_row ((((Below.refl _ _).alloc (by omega) _).alloc (by simp) _).alloc (by simp; omega) _) (by omega) _⟩
  case round =>
    obtain ⟨k, hk, rfl, h1, h2, hb⟩ := hrel
    by_cases hlt : k < 256
    · have hbl := (b k).toNat_lt
      have c2 := h2.byteAt hbl
      have f2 := h2.frozen (b k).toNat
      have ix := fun (w : World) => run_index_row (w := w) .i64 Try.underlying25 sizeU1 (.inl Try.underlying5) hlt (byteRow_at b hlt)
      have H1 := Lib.hid h1; clear h1; have H2 := Lib.hid h2; clear h2; have Hb := Lib.hid hb; clear hb
      go_wp2
      go_roundw
      case rel => exact ⟨k + 1, by omega, by go_num, H1.out.farC (by omega) _, (H2.out.bytePutN (b k).toNat hlt).eq_ rfl, Hb.out.setCell (by show _ ≤ _ + 1 + 1; omega) _⟩
      case measure => simp [intOf]; omega
    · obtain rfl : k = 256 := by omega
      have H1 := Lib.hid h1; clear h1; have H2 := Lib.hid h2; clear h2; have Hb := Lib.hid hb; clear hb
      go_wp2_with (first | (refine wpList_loadR rfl _ _ rfl _ rfl H2.out Try.underlying25 rfl size25 (byteRow_size _ _) ?_) | (refine wpList_storeR rfl _ _ _ rfl _ _ rfl rfl H1.out size25 (byteRow_size _ _) (byteRow_size _ _) (byteRow_all _ _) ?_))
      refine bodyPost_ret (results_cellB rfl _ _ _ rfl (H1.out.setRow _) Try.underlying25 rfl size25 (byteRow_size _ _)) rfl ⟨rfl, below_row Hb.out (by omega) _⟩
set_option maxRecDepth 100000 in
set_option maxHeartbeats 400000 in
theorem specInverseBox (b : Nat → UInt8) (w : World) :
    Calls Try.prog 44 #[.agg (byteRow 256 b)] w fun e w' => e = .returned (.tuple #[.agg (byteRow 256 (invBox b)), .int .i64 (invCode b)]) ∧ Below w.heap.size w w' := by
  have k0 := Lib.hid ((Blk.new w 25 (byteRow 256 b)).alloc (.cells Try.zeroCells25 25))
  have k1 := Lib.hid ((Blk.newAt (t := 25) (cs := Try.zeroCells25) (w := w.alloc (.cells (byteRow 256 b) 25)) (n := w.heap.size + 1) (by simp)).eq_ zeroBox)
  have l := Lib.hid ((((Below.refl w.heap.size w).alloc (Nat.le_refl _) (.cells (byteRow 256 b) 25)).alloc (by simp) (.cells Try.zeroCells25 25)))
  cases hp : permB b with
  | true =>
    have hi : invBox b = invOf b := by unfold invBox; rw [hp, if_pos rfl]
    have hc : invCode b = 0 := by unfold invCode; rw [hp, if_pos rfl]
    have Hi := Lib.hid hi; clear hi; have Hc := Lib.hid hc; clear hc
    have hp' := Lib.hid hp
    go_enter Try.func44, Try.ntmps44
    go_wp2_with (refine wpList_loadH rfl _ _ rfl _ rfl (by assumption) Try.underlying25 rfl size25 (byteRow_size _ _) ?_)
    refine (l02Is _ _).mono ?_
    rintro e wx ⟨rfl, hb⟩
    have k0 := carryB k0 hb
    have k1 := carryB k1 hb
    have l := carryS l hb
    clear hb
    go_wp2_with (refine wpList_loadH rfl _ _ rfl _ rfl (by assumption) Try.underlying25 rfl size25 (byteRow_size _ _) ?_)
    refine (l02Inverse _ _).mono ?_
    rintro e wx ⟨rfl, hb⟩
    have k1 := carryB k1 hb
    have l := carryS l hb
    clear hb
    go_wp2_with (refine wpList_storeR rfl _ _ _ rfl _ _ rfl rfl k1.out size25 (byteRow_size _ _) (byteRow_size _ _) (byteRow_all _ _) ?_)
    refine bodyPost_ret (results_cellB_tmp rfl _ _ _ rfl (k1.out.setRow _) Try.underlying25 rfl size25 (byteRow_size _ _)) rfl ⟨ret_pair (by rw [Hi.out]) Hc.out.symm, below_row l.out (by omega) _⟩
  | false =>
    have hi : invBox b = fun _ => 0 := by unfold invBox; rw [hp, if_neg (by simp)]
    have hc : invCode b = 5 := by unfold invCode; rw [hp, if_neg (by simp)]
    have Hi := Lib.hid hi; clear hi; have Hc := Lib.hid hc; clear hc
    have hp' := Lib.hid hp
    go_enter Try.func44, Try.ntmps44
    go_wp2_with (refine wpList_loadH rfl _ _ rfl _ rfl (by assumption) Try.underlying25 rfl size25 (byteRow_size _ _) ?_)
    refine (l02Is _ _).mono ?_
    rintro e wx ⟨rfl, hb⟩
    have k0 := carryB k0 hb
    have k1 := carryB k1 hb
    have l := carryS l hb
    clear hb
    go_wp2_with (first | (refine wpList_buildZ rfl _ rfl builtBox ?_) | (refine wpList_storeR rfl _ _ _ rfl _ _ rfl rfl k1.out size25 (byteRow_size _ _) (byteRow_size _ _) (byteRow_all _ _) ?_))
    refine bodyPost_ret (results_cellB_tmp rfl _ _ _ rfl (k1.out.setRow _) Try.underlying25 rfl size25 (byteRow_size _ _)) rfl ⟨ret_pair (by rw [Hi.out]) Hc.out.symm, below_row l.out (by omega) _⟩
set_option maxRecDepth 100000 in
set_option maxHeartbeats 400000 in
theorem implInverseBox (b : Nat → UInt8) (w : World) :
    Calls Try.prog 45 #[.agg (byteRow 256 b)] w fun e w' => e = .returned (.tuple #[.agg (byteRow 256 (invBox b)), .int .i64 (invCode b)]) ∧ Below w.heap.size w w' := by
  have k0 := Lib.hid ((Blk.new w 25 (byteRow 256 b)).alloc (.cells Try.zeroCells25 25))
  have k1 := Lib.hid ((Blk.newAt (t := 25) (cs := Try.zeroCells25) (w := w.alloc (.cells (byteRow 256 b) 25)) (n := w.heap.size + 1) (by simp)).eq_ zeroBox)
  have l := Lib.hid ((((Below.refl w.heap.size w).alloc (Nat.le_refl _) (.cells (byteRow 256 b) 25)).alloc (by simp) (.cells Try.zeroCells25 25)))
  cases hp : permB b with
  | true =>
    have hi : invBox b = invOf b := by unfold invBox; rw [hp, if_pos rfl]
    have hc : invCode b = 0 := by unfold invCode; rw [hp, if_pos rfl]
    have Hi := Lib.hid hi; clear hi; have Hc := Lib.hid hc; clear hc
    have hp' := Lib.hid hp
    go_enter Try.func45, Try.ntmps45
    go_wp2_with (refine wpList_loadH rfl _ _ rfl _ rfl (by assumption) Try.underlying25 rfl size25 (byteRow_size _ _) ?_)
    refine (implIsPermutation _ _).mono ?_
    rintro e wx ⟨rfl, hb⟩
    have k0 := carryB k0 hb
    have k1 := carryB k1 hb
    have l := carryS l hb
    clear hb
    go_wp2_with (refine wpList_loadH rfl _ _ rfl _ rfl (by assumption) Try.underlying25 rfl size25 (byteRow_size _ _) ?_)
    refine (boxInverse _ _).mono ?_
    rintro e wx ⟨rfl, hb⟩
    have k1 := carryB k1 hb
    have l := carryS l hb
    clear hb
    go_wp2_with (refine wpList_storeR rfl _ _ _ rfl _ _ rfl rfl k1.out size25 (byteRow_size _ _) (byteRow_size _ _) (byteRow_all _ _) ?_)
    refine bodyPost_ret (results_cellB_tmp rfl _ _ _ rfl (k1.out.setRow _) Try.underlying25 rfl size25 (byteRow_size _ _)) rfl ⟨ret_pair (by rw [Hi.out]) Hc.out.symm, below_row l.out (by omega) _⟩
  | false =>
    have hi : invBox b = fun _ => 0 := by unfold invBox; rw [hp, if_neg (by simp)]
    have hc : invCode b = 5 := by unfold invCode; rw [hp, if_neg (by simp)]
    have Hi := Lib.hid hi; clear hi; have Hc := Lib.hid hc; clear hc
    have hp' := Lib.hid hp
    go_enter Try.func45, Try.ntmps45
    go_wp2_with (refine wpList_loadH rfl _ _ rfl _ rfl (by assumption) Try.underlying25 rfl size25 (byteRow_size _ _) ?_)
    refine (implIsPermutation _ _).mono ?_
    rintro e wx ⟨rfl, hb⟩
    have k0 := carryB k0 hb
    have k1 := carryB k1 hb
    have l := carryS l hb
    clear hb
    go_wp2_with (first | (refine wpList_buildZ rfl _ rfl builtBox ?_) | (refine wpList_storeR rfl _ _ _ rfl _ _ rfl rfl k1.out size25 (byteRow_size _ _) (byteRow_size _ _) (byteRow_all _ _) ?_))
    refine bodyPost_ret (results_cellB_tmp rfl _ _ _ rfl (k1.out.setRow _) Try.underlying25 rfl size25 (byteRow_size _ _)) rfl ⟨ret_pair (by rw [Hi.out]) Hc.out.symm, below_row l.out (by omega) _⟩
end Go.Proofs.Ytbbmcpbdcdffeaa
