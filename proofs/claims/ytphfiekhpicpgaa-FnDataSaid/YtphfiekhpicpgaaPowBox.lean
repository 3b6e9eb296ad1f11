/- Contracts: the box of powers, by the program and by the reference, and the walk of the law. No condition. -/
import Derived.Test.YtphfiekhpicpgaaRows
import Derived.Test.YtphfiekhpicpgaaLaws
import Derived.Test.YtphfiekhpicpgaaPower
import Derived.Test.YtphfiekhpicpgaaPerm
set_option linter.unusedVariables false
namespace Go.Proofs.Ytphfiekhpicpgaa
open Go.RowKit Plain
def powF (m k : Nat) : Nat → UInt8 := fun x => UInt8.ofNat (powN m x k)
def powBoxV (m k : Int) : Nat → UInt8 := if fieldB m && inB k 1 255 then powF m.toNat k.toNat else fun _ => 0
def powBoxC (m k : Int) : Int := if fieldB m then (if inB k 1 255 then 0 else 2) else 1
theorem ret_pairB {a b : Array Value} {n m : Int} (h : a = b) (h2 : n = m) : Ending.returned (.tuple #[.agg a, .int .i64 n]) = .returned (.tuple #[.agg b, .int .i64 m]) := by rw [h, h2]
theorem inB_255 {k : Int} (h : inB k 1 255 = true) : ∃ n : Nat, k = n ∧ 1 ≤ n ∧ n ≤ 255 := by
  unfold inB at h
  simp only [Bool.and_eq_true, decide_eq_true_eq] at h
  exact ⟨k.toNat, by omega, by omega, by omega⟩
set_option maxRecDepth 100000 in
set_option maxHeartbeats 800000 in
theorem l02Power (m k0 : Nat) (h1 : 256 ≤ m) (h2 : m < 512) (hk0 : k0 < 2 ^ 32) (w : World) :
    Calls Try.prog 58 #[.int .i64 (m : Int), .int .i64 (k0 : Int)] w fun e w' => e = .returned (.agg (byteRow 256 (powF m k0))) ∧ Below w.heap.size w w' := by
  go_enter Try.func58, Try.ntmps58
  go_wp2_with (first | (refine wpList_buildZ rfl _ rfl builtBox ?_) | (refine wpList_storeR rfl _ _ _ rfl _ _ rfl rfl ((Blk.newAt (by simp)).eq_ zeroBox) size27 (byteRow_size _ _) (byteRow_size _ _) (byteRow_all _ _) ?_))
  go_loopw [6] (fun i wr => ∃ k : Nat, k ≤ 256 ∧ i = .int .i64 k ∧ Blk wr w.heap.size 27 (byteRow 256 (fun _ => 0)) ∧ Blk wr (w.heap.size + 1) 27 (byteRow 256 (fun i => if i < k then powF m k0 i else 0)) ∧ Below w.heap.size w wr)
    (fun i _ => 256 - (intOf i).toNat)
  case atStart =>
    rw [zeroBox]
    exact ⟨0, by omega, rfl, ((Blk.newAt (w := w) (by simp)).alloc _).rowFar (by omega) _, ((Blk.newAt (w := w.alloc _) (by simp)).setRow _).eq_ (byteRow_none _ _ _), below_row (((Below.refl _ _).alloc (by omega) _).alloc (by simp) _) (by omega) _⟩
  case round =>
    obtain ⟨x, hx, rfl, b0, b1, hb⟩ := hrel
    obtain ⟨wo, rfl⟩ : ∃ wo : World, wo = wr := ⟨_, rfl⟩
    by_cases hlt : x < 256
    · have hxi : (x : Int) < 256 := by omega
      have c1 := b1.byteAt hlt
      have f1 := b1.frozen x
      have H0 := Lib.hid b0; clear b0; have H1 := Lib.hid b1; clear b1; have Hb := Lib.hid hb; clear hb
      go_wp2
      go_loop [7, 8, 9] (fun p q z => ∃ o n r f : Nat, o < 256 ∧ n < 256 ∧ r < 2 ^ f ∧ f ≤ 32 ∧ p = .int .u8 o ∧ q = .int .u8 n ∧ z = .int .i64 r ∧ PW m f o n r = powN m x k0) (fun _ _ z => (intOf z).toNat)
      case atStart => exact ⟨1, x, k0, 32, by omega, hlt, hk0, by omega, rfl, rfl, rfl, rfl⟩
      case round =>
        obtain ⟨o, n, r, f, ho, hn, hr, hf, rfl, rfl, rfl, he⟩ := hrel
        by_cases h0 : r = 0
        · subst h0
          have he2 : powN m x k0 = o := by rw [← he, PW_zero]
          clear he hk0
          have He2 := Lib.hid he2; clear he2
          go_wp2
          go_roundw
          case rel => exact ⟨x + 1, by omega, by go_num, H0.out.farC (by omega) _, by have := H1.out.bytePutN x (v := o) ho; rw [← He2.out, show UInt8.ofNat (powN m x k0) = powF m k0 x from rfl, upd_fill, He2.out] at this; exact this, Hb.out.setCell (p := ⟨w.heap.size + 1, x, none⟩) (by show _ ≤ _ + 1; omega) _⟩
          case measure => simp [intOf]; omega
        · have hr0 : (0 : Int) < r := by omega
          obtain ⟨g, rfl⟩ : ∃ g, f = g + 1 := ⟨f - 1, by
            have : f ≠ 0 := fun e => by subst e; omega
            omega⟩
          have hr2 : r / 2 < 2 ^ g := by rw [Nat.pow_succ] at hr; omega
          have hr256 : r < 4294967296 := Nat.lt_of_lt_of_le hr (show 2 ^ (g + 1) ≤ 2 ^ 32 from Nat.pow_le_pow_right (by omega) hf)
          have he2 : PW m g (if r % 2 = 1 then timesI m o n else o) (timesI m n n) (r / 2) = powN m x k0 := by
            rw [← he]
            show _ = if r = 0 then _ else _
            rw [if_neg h0]
          have hnn := timesI_lt (m := m) (a := n) (b := n) h1 h2 hn
          have hon := timesI_lt (m := m) (a := o) (b := n) h1 h2 ho
          have d1 := l01Times m n n h1 h2 hn hn
          have d2 := l01Times m o n h1 h2 ho hn
          have C1 := Lib.hid d1
          have C2 := Lib.hid d2
          clear he hr d1 d2 hk0
          by_cases hp : r % 2 = 1
          · have e1 : ((r : Int) % 2 == 1) = true := by rw [beq_iff_eq]; omega
            rw [if_pos hp] at he2
            have He2 := Lib.hid he2; clear he2; have Hr2 := Lib.hid hr2; clear hr2
            go_wp2_with fail
            refine (C2.out _).mono ?_
            rintro e wx ⟨rfl, rfl⟩
            go_wp2_with fail
            refine (C1.out _).mono ?_
            rintro e wx ⟨rfl, rfl⟩
            go_wp2_with fail
            go_round
            case rel => exact ⟨timesI m o n, timesI m n n, r / 2, g, hon, hnn, Hr2.out, by omega, rfl, rfl, by go_num, He2.out⟩
            case measure => simp [intOf]; omega
          · have e1 : ((r : Int) % 2 == 1) = false := by rw [beq_eq_false_iff_ne]; omega
            rw [if_neg hp] at he2
            have He2 := Lib.hid he2; clear he2; have Hr2 := Lib.hid hr2; clear hr2
            go_wp2_with fail
            refine (C1.out _).mono ?_
            rintro e wx ⟨rfl, rfl⟩
            go_wp2_with fail
            go_round
            case rel => exact ⟨o, timesI m n n, r / 2, g, ho, hnn, Hr2.out, by omega, rfl, rfl, by go_num, He2.out⟩
            case measure => simp [intOf]; omega
    · obtain rfl : x = 256 := by omega
      have b1' := b1.eq_ (byteRow_full (powF m k0) _ hlt)
      clear b1 hk0
      have H0 := Lib.hid b0; clear b0; have H1' := Lib.hid b1'; clear b1'; have Hb := Lib.hid hb; clear hb
      go_wp2_with (first | (refine wpList_loadR rfl _ _ rfl _ rfl H1'.out Try.underlying27 rfl size27 (byteRow_size _ _) ?_) | (refine wpList_storeR rfl _ _ _ rfl _ _ rfl rfl H0.out size27 (byteRow_size _ _) (byteRow_size _ _) (byteRow_all _ _) ?_))
      refine bodyPost_ret (results_cellB rfl _ _ _ rfl (H0.out.setRow _) Try.underlying27 rfl size27 (byteRow_size _ _)) rfl ⟨rfl, below_row Hb.out (by omega) _⟩
set_option maxRecDepth 100000 in
set_option maxHeartbeats 800000 in
theorem specPowerBox (m k : Int) (w : World) :
    Calls Try.prog 9 #[.int .i64 m, .int .i64 k] w fun e w' => e = .returned (.tuple #[.agg (byteRow 256 (powBoxV m k)), .int .i64 (powBoxC m k)]) ∧ Below w.heap.size w w' := by
  have k1 := Lib.hid ((Blk.newAt (t := 27) (cs := Try.zeroCells27) (w := w) (n := w.heap.size) (by simp)).eq_ zeroBox)
  have l := Lib.hid ((Below.refl w.heap.size w).alloc (Nat.le_refl _) (.cells Try.zeroCells27 27))
  have c := l01Field m
  cases hf : fieldB m with
  | false =>
    rw [hf] at c
    have C := Lib.hid c
    have hv : powBoxV m k = fun _ => 0 := by unfold powBoxV; rw [hf]; rfl
    have hc : powBoxC m k = 1 := by unfold powBoxC; rw [hf]; rfl
    clear c hf
    have Hv := Lib.hid hv; clear hv; have Hc := Lib.hid hc; clear hc
    go_enter Try.func9, Try.ntmps9
    go_wp2_with (first | (go_at_call 56; refine (C.out _).mono ?_; rintro e wx ⟨rfl, rfl⟩) | (refine wpList_buildZ rfl _ rfl builtBox ?_) | (refine wpList_storeR rfl _ _ _ rfl _ _ rfl rfl k1.out size27 (byteRow_size _ _) (byteRow_size _ _) (byteRow_all _ _) ?_))
    refine bodyPost_ret (results_cellB_tmp rfl _ _ _ rfl (k1.out.setRow _) Try.underlying27 rfl size27 (byteRow_size _ _)) rfl ⟨ret_pairB (by first | (rw [Hv.out]; done) | (rw [Hv.out]; exact zeroBox)) Hc.out.symm, below_row l.out (by omega) _⟩
  | true =>
    rw [hf] at c
    have C := Lib.hid c
    clear c
    have d := l01In k 1 255
    cases hi : inB k 1 255 with
    | false =>
      rw [hi] at d
      have D := Lib.hid d
      have hv : powBoxV m k = fun _ => 0 := by unfold powBoxV; rw [hf, hi]; rfl
      have hc : powBoxC m k = 2 := by unfold powBoxC; rw [hf, hi]; rfl
      clear d hf hi
      have Hv := Lib.hid hv; clear hv; have Hc := Lib.hid hc; clear hc
      go_enter Try.func9, Try.ntmps9
      go_wp2_with (first | (go_at_call 56; refine (C.out _).mono ?_; rintro e wx ⟨rfl, rfl⟩) | (go_at_call 57; refine (D.out _).mono ?_; rintro e wx ⟨rfl, rfl⟩) | (refine wpList_buildZ rfl _ rfl builtBox ?_) | (refine wpList_storeR rfl _ _ _ rfl _ _ rfl rfl k1.out size27 (byteRow_size _ _) (byteRow_size _ _) (byteRow_all _ _) ?_))
      refine bodyPost_ret (results_cellB_tmp rfl _ _ _ rfl (k1.out.setRow _) Try.underlying27 rfl size27 (byteRow_size _ _)) rfl ⟨ret_pairB (by first | (rw [Hv.out]; done) | (rw [Hv.out]; exact zeroBox)) Hc.out.symm, below_row l.out (by omega) _⟩
    | true =>
      rw [hi] at d
      have D := Lib.hid d
      clear d
      obtain ⟨n, rfl, h1, h2, hF⟩ := fieldB_nat hf
      obtain ⟨q, rfl, hq1, hq2⟩ := inB_255 hi
      have hv : powBoxV n q = powF n q := by unfold powBoxV; rw [hf, hi]; rfl
      have hc : powBoxC n q = 0 := by unfold powBoxC; rw [hf, hi]; rfl
      clear hF hf hi
      have Hv := Lib.hid hv; clear hv; have Hc := Lib.hid hc; clear hc
      go_enter Try.func9, Try.ntmps9
      go_wp2_with (first | (go_at_call 56; refine (C.out _).mono ?_; rintro e wx ⟨rfl, rfl⟩) | (go_at_call 57; refine (D.out _).mono ?_; rintro e wx ⟨rfl, rfl⟩))
      refine (l02Power n q h1 h2 (by omega) _).mono ?_
      rintro e wx ⟨rfl, hb⟩
      have k1 := carryB k1 hb
      have l := carryS l hb
      clear hb
      go_wp2_with (refine wpList_storeR rfl _ _ _ rfl _ _ rfl rfl k1.out size27 (byteRow_size _ _) (byteRow_size _ _) (byteRow_all _ _) ?_)
      refine bodyPost_ret (results_cellB_tmp rfl _ _ _ rfl (k1.out.setRow _) Try.underlying27 rfl size27 (byteRow_size _ _)) rfl ⟨ret_pairB (by first | (rw [Hv.out]; done) | (rw [Hv.out]; exact zeroBox)) Hc.out.symm, below_row l.out (by omega) _⟩
set_option maxRecDepth 100000 in
set_option maxHeartbeats 800000 in
theorem implPowerBox (m k : Int) (w : World) :
    Calls Try.prog 8 #[.int .i64 m, .int .i64 k] w fun e w' => e = .returned (.tuple #[.agg (byteRow 256 (powBoxV m k)), .int .i64 (powBoxC m k)]) ∧ Below w.heap.size w w' := by
  have k1 := Lib.hid ((Blk.newAt (t := 27) (cs := Try.zeroCells27) (w := w) (n := w.heap.size) (by simp)).eq_ zeroBox)
  have l := Lib.hid ((Below.refl w.heap.size w).alloc (Nat.le_refl _) (.cells Try.zeroCells27 27))
  have c := implIsField m
  cases hf : fieldB m with
  | false =>
    rw [hf] at c
    have C := Lib.hid c
    have hv : powBoxV m k = fun _ => 0 := by unfold powBoxV; rw [hf]; rfl
    have hc : powBoxC m k = 1 := by unfold powBoxC; rw [hf]; rfl
    clear c hf
    have Hv := Lib.hid hv; clear hv; have Hc := Lib.hid hc; clear hc
    go_enter Try.func8, Try.ntmps8
    go_wp2_with (first | (go_at_call 53; refine (C.out _).mono ?_; rintro e wx ⟨rfl, rfl⟩) | (refine wpList_buildZ rfl _ rfl builtBox ?_) | (refine wpList_storeR rfl _ _ _ rfl _ _ rfl rfl k1.out size27 (byteRow_size _ _) (byteRow_size _ _) (byteRow_all _ _) ?_))
    refine bodyPost_ret (results_cellB_tmp rfl _ _ _ rfl (k1.out.setRow _) Try.underlying27 rfl size27 (byteRow_size _ _)) rfl ⟨ret_pairB (by first | (rw [Hv.out]; done) | (rw [Hv.out]; exact zeroBox)) Hc.out.symm, below_row l.out (by omega) _⟩
  | true =>
    rw [hf] at c
    have C := Lib.hid c
    clear c
    have d := inRange k 1 255
    cases hi : inB k 1 255 with
    | false =>
      rw [hi] at d
      have D := Lib.hid d
      have hv : powBoxV m k = fun _ => 0 := by unfold powBoxV; rw [hf, hi]; rfl
      have hc : powBoxC m k = 2 := by unfold powBoxC; rw [hf, hi]; rfl
      clear d hf hi
      have Hv := Lib.hid hv; clear hv; have Hc := Lib.hid hc; clear hc
      go_enter Try.func8, Try.ntmps8
      go_wp2_with (first | (go_at_call 53; refine (C.out _).mono ?_; rintro e wx ⟨rfl, rfl⟩) | (go_at_call 54; refine (D.out _).mono ?_; rintro e wx ⟨rfl, rfl⟩) | (refine wpList_buildZ rfl _ rfl builtBox ?_) | (refine wpList_storeR rfl _ _ _ rfl _ _ rfl rfl k1.out size27 (byteRow_size _ _) (byteRow_size _ _) (byteRow_all _ _) ?_))
      refine bodyPost_ret (results_cellB_tmp rfl _ _ _ rfl (k1.out.setRow _) Try.underlying27 rfl size27 (byteRow_size _ _)) rfl ⟨ret_pairB (by first | (rw [Hv.out]; done) | (rw [Hv.out]; exact zeroBox)) Hc.out.symm, below_row l.out (by omega) _⟩
    | true =>
      rw [hi] at d
      have D := Lib.hid d
      clear d
      obtain ⟨n, rfl, h1, h2, hF⟩ := fieldB_nat hf
      obtain ⟨q, rfl, hq1, hq2⟩ := inB_255 hi
      have hv : powBoxV n q = powF n q := by unfold powBoxV; rw [hf, hi]; rfl
      have hc : powBoxC n q = 0 := by unfold powBoxC; rw [hf, hi]; rfl
      clear hF hf hi
      have Hv := Lib.hid hv; clear hv; have Hc := Lib.hid hc; clear hc
      go_enter Try.func8, Try.ntmps8
      go_wp2_with (first | (go_at_call 53; refine (C.out _).mono ?_; rintro e wx ⟨rfl, rfl⟩) | (go_at_call 54; refine (D.out _).mono ?_; rintro e wx ⟨rfl, rfl⟩) | (refine wpList_buildZ rfl _ rfl builtBox ?_) | (refine wpList_storeR rfl _ _ _ rfl _ _ rfl rfl ((Blk.newAt (by simp)).eq_ zeroBox) size27 (byteRow_size _ _) (byteRow_size _ _) (byteRow_all _ _) ?_))
      go_loopw [19] (fun i wr => ∃ k : Nat, k ≤ 256 ∧ i = .int .i64 k ∧ Blk wr w.heap.size 27 (byteRow 256 (fun _ => 0)) ∧ Blk wr (w.heap.size + 1) 27 (byteRow 256 (fun i => if i < k then powF n q i else 0)) ∧ Below w.heap.size w wr)
        (fun i _ => 256 - (intOf i).toNat)
      case atStart =>
        rw [zeroBox]
        exact ⟨0, by omega, rfl, ((Blk.newAt (w := w) (by simp)).alloc _).rowFar (by omega) _, ((Blk.newAt (w := w.alloc _) (by simp)).setRow _).eq_ (byteRow_none _ _ _), below_row (((Below.refl _ _).alloc (by omega) _).alloc (by simp) _) (by omega) _⟩
      case round =>
        obtain ⟨x, hx, rfl, b0, b1, hb⟩ := hrel
        by_cases hlt : x < 256
        · have hxi : (x : Int) < 256 := by omega
          have c1 := b1.byteAt hlt
          have f1 := b1.frozen x
          have hpl := powN_lt (k := q) h1 h2 hlt
          have E := Lib.hid (fPower n x q h1 h2 hlt (by omega))
          have H0 := Lib.hid b0; clear b0; have H1 := Lib.hid b1; clear b1; have Hb := Lib.hid hb; clear hb
          go_wp2_with (go_at_call 55; refine (E.out _).mono ?_; rintro e wx ⟨rfl, rfl⟩)
          go_roundw
          case rel => exact ⟨x + 1, by omega, by go_num, H0.out.farC (by omega) _, by have := H1.out.bytePutN x (v := powN n x q) hpl; rw [show UInt8.ofNat (powN n x q) = powF n q x from rfl, upd_fill] at this; exact this, Hb.out.setCell (p := ⟨w.heap.size + 1, x, none⟩) (by show _ ≤ _ + 1; omega) _⟩
          case measure => simp [intOf]; omega
        · obtain rfl : x = 256 := by omega
          have b1' := b1.eq_ (byteRow_full (powF n q) _ hlt)
          clear b1
          have H0 := Lib.hid b0; clear b0; have H1' := Lib.hid b1'; clear b1'; have Hb := Lib.hid hb; clear hb
          go_wp2_with (first | (refine wpList_loadR rfl _ _ rfl _ rfl H1'.out Try.underlying27 rfl size27 (byteRow_size _ _) ?_) | (refine wpList_storeR rfl _ _ _ rfl _ _ rfl rfl H0.out size27 (byteRow_size _ _) (byteRow_size _ _) (byteRow_all _ _) ?_))
          refine bodyPost_ret (results_cellB_tmp rfl _ _ _ rfl (H0.out.setRow _) Try.underlying27 rfl size27 (byteRow_size _ _)) rfl ⟨ret_pairB (by first | (rw [Hv.out]; done) | (rw [Hv.out]; exact zeroBox)) Hc.out.symm, below_row Hb.out (by omega) _⟩
end Go.Proofs.Ytphfiekhpicpgaa
