/- Contracts: places, by the program and by the reference. No condition. -/
import Derived.Test.YtnkfghoajpghkaaShelf
namespace Go.Proofs.Ytnkfghoajpghkaa
open Go.RowKit Plain
theorem builtBool16 : Try.prog.built 96 [] = some (boolRow 16 (fun _ => false)) := by kernel_rfl
set_option maxRecDepth 100000 in
set_option maxHeartbeats 400000 in
theorem l03Perm (p : Nat → UInt8) (w : World) :
    Calls Try.prog 77 #[.agg (byteRow 16 p)] w fun e w' => e = .returned (.bool (placesB p)) ∧ Below w.heap.size w w' := by
  go_enter Try.func77, Try.ntmps77
  go_wp2_with (first | (refine wpList_buildZ rfl _ rfl builtBool16 ?_) | (refine wpList_storeR rfl _ _ _ rfl _ _ rfl rfl ((Blk.newAt (by simp)).eq_ false16) size96 (boolRow_size _ _) (boolRow_size _ _) (boolRow_all _ _) ?_))
  go_loopw [4] (fun i wr => ∃ k : Nat, k ≤ 16 ∧ i = .int .i64 k ∧ Blk wr w.heap.size 67 (byteRow 16 p) ∧ Blk wr (w.heap.size + 1) 96 (boolRow 16 (metB p k)) ∧ SmallTo p k ∧ DistTo p k ∧ Below w.heap.size w wr)
    (fun i _ => 16 - (intOf i).toNat)
  case atStart =>
    exact ⟨0, by omega, rfl, ((Blk.new w _ _).alloc _).rowFar (by omega) _, (Blk.newAt (w := w.alloc _) (by simp)).setRow _, fun i hi => absurd hi (Nat.not_lt_zero _), dist_zero p, below_row (((Below.refl _ _).alloc (by omega) _).alloc (by simp) _) (by omega) _⟩
  case round =>
    obtain ⟨k, hk, rfl, h0, h1, hs, hd, hb⟩ := hrel
    by_cases hlt : k < 16
    · have c0 := h0.byteAt hlt
      have hki : (k : Int) < 16 := by omega
      by_cases hbig : 16 ≤ (p k).toNat
      · have hp := placesB_big hlt hbig
        have hbi : (16 : Int) ≤ ((p k).toNat : Int) := by omega
        have H0 := Lib.hid h0; clear h0; have H1 := Lib.hid h1; clear h1; have Hs := Lib.hid hs; clear hs; have Hd := Lib.hid hd; clear hd; have Hb := Lib.hid hb; clear hb; have Hp := Lib.hid hp; clear hp
        go_wp2
        go_ret
        exact ⟨ret_bool Hp.out.symm, Hb.out⟩
      · have hbl : (p k).toNat < 16 := by omega
        have hbi : ((p k).toNat : Int) < 16 := by omega
        have c1 := h1.boolAt hbl
        have f1 := h1.frozen (p k).toNat
        cases hm : metB p k (p k).toNat with
        | true =>
          rw [hm] at c1
          have hp := placesB_met hlt hm
          clear hm
          have H0 := Lib.hid h0; clear h0; have H1 := Lib.hid h1; clear h1; have Hs := Lib.hid hs; clear hs; have Hd := Lib.hid hd; clear hd; have Hb := Lib.hid hb; clear hb; have Hp := Lib.hid hp; clear hp
          go_wp2
          go_ret
          exact ⟨ret_bool Hp.out.symm, Hb.out⟩
        | false =>
          rw [hm] at c1
          have H0 := Lib.hid h0; clear h0; have H1 := Lib.hid h1; clear h1; have Hs := Lib.hid hs; clear hs; have Hd := Lib.hid hd; clear hd; have Hb := Lib.hid hb; clear hb; have Hm := Lib.hid hm; clear hm
          go_wp2
          go_roundw
          case rel => exact ⟨k + 1, by omega, by go_num, H0.out.farC (by omega) _, metRow_put H1.out, small_succ Hs.out hbl, dist_succ Hd.out Hm.out, Hb.out.setCell (by show _ ≤ _ + 1; omega) _⟩
          case measure => simp [intOf]; omega
    · obtain rfl : k = 16 := by omega
      have hp := placesB_true hs hd
      have H0 := Lib.hid h0; clear h0; have H1 := Lib.hid h1; clear h1; have Hs := Lib.hid hs; clear hs; have Hd := Lib.hid hd; clear hd; have Hb := Lib.hid hb; clear hb; have Hp := Lib.hid hp; clear hp
      go_wp2
      go_ret
      exact ⟨ret_bool Hp.out.symm, Hb.out⟩
set_option maxRecDepth 100000 in
set_option maxHeartbeats 400000 in
theorem areDifferent (b : Nat → UInt8) (g off n cap : Nat) (hn : n ≤ 1000) (hcap : n ≤ cap) (hcap2 : cap ≤ 1048576) (w : World) (hc : ∀ i, i < n → w.cell? ⟨g, off + i, none⟩ = some (.int .u8 ((b i).toNat : Int))) :
    Calls Try.prog 90 #[.slice (some ⟨g, off, none⟩) n cap] w fun e w' => e = .returned (.bool (diffB b n)) ∧ w' = w := by
  have Hc := Lib.hid hc; clear hc
  go_enter Try.func90, Try.ntmps90
  go_wp2
  go_loop [7] (fun i => ∃ k : Nat, k ≤ n ∧ i = .int .i64 k ∧ DistTo b k) (fun i => n - (intOf i).toNat)
  case atStart => exact ⟨0, by omega, rfl, dist_zero b⟩
  case round =>
    obtain ⟨k, hk, rfl, hd⟩ := hrel
    by_cases hlt : k < n
    · have hki : (k : Int) < n := by omega
      have c0 := Hc.out k hlt
      have hic := indexByte b g off k cap (b k) w (fun i hi => Hc.out i (by omega))
      cases hm : metB b k (b k).toNat with
      | true =>
        have h0 := idxU_met hm
        have hr := diffB_false (not_dist_of_met hlt hm)
        clear hm
        have Hd := Lib.hid hd; clear hd; have Hr := Lib.hid hr; clear hr; have Hic := Lib.hid hic; clear hic
        go_wp2_with (go_at_call 95; refine Hic.out.mono ?_; rintro e wx ⟨rfl, rfl⟩)
        go_ret
        exact ⟨ret_bool Hr.out.symm, rfl⟩
      | false =>
        have h0 := idxU_none hm
        rw [h0] at hic
        clear h0
        have Hd := Lib.hid hd; clear hd; have Hm := Lib.hid hm; clear hm; have Hic := Lib.hid hic; clear hic
        go_wp2_with (go_at_call 95; refine Hic.out.mono ?_; rintro e wx ⟨rfl, rfl⟩)
        go_round
        case rel => exact ⟨k + 1, by omega, by go_num, dist_succ Hd.out Hm.out⟩
        case measure => simp [intOf]; omega
    · obtain rfl : k = n := by omega
      have hr := diffB_true hd
      have Hd := Lib.hid hd; clear hd; have Hr := Lib.hid hr; clear hr
      go_wp2
      go_ret
      exact ⟨ret_bool Hr.out.symm, rfl⟩
set_option maxRecDepth 100000 in
set_option maxHeartbeats 400000 in
theorem implArePlaces (p : Nat → UInt8) (w : World) :
    Calls Try.prog 78 #[.agg (byteRow 16 p)] w fun e w' => e = .returned (.bool (placesB p)) ∧ Below w.heap.size w w' := by
  go_enter Try.func78, Try.ntmps78
  have k0 := Lib.hid (Blk.new w 67 (byteRow 16 p))
  go_wp2_with (refine wpList_loadH rfl _ _ rfl _ rfl (by assumption) Try.underlying67 rfl size67 (byteRow_size _ _) ?_)
  go_loop [6] (fun i => ∃ k : Nat, k ≤ 16 ∧ i = .int .i64 k ∧ SmallTo p k) (fun i => 16 - (intOf i).toNat)
  case atStart => exact ⟨0, by omega, rfl, fun i hi => absurd hi (Nat.not_lt_zero _)⟩
  case round =>
    obtain ⟨k, hk, rfl, hs⟩ := hrel
    by_cases hlt : k < 16
    · have hki : (k : Int) < 16 := by omega
      have ix := fun (w : World) => run_index_row (w := w) .i64 Try.underlying67 sizeU1 (.inl Try.underlying5) hlt (byteRow_at p hlt)
      by_cases hbig : 16 ≤ (p k).toNat
      · have hp := placesB_big hlt hbig
        have hbi : (15 : Int) < ((p k).toNat : Int) := by omega
        have Hs := Lib.hid hs; clear hs; have Hp := Lib.hid hp; clear hp
        go_wp2
        go_ret
        exact ⟨ret_bool Hp.out.symm, (Below.refl _ _).alloc (Nat.le_refl _) _⟩
      · have hbi : ((p k).toNat : Int) ≤ 15 := by omega
        have hbl : (p k).toNat < 16 := by omega
        have Hs := Lib.hid hs; clear hs
        go_wp2
        go_round
        case rel => exact ⟨k + 1, by omega, by go_num, small_succ Hs.out hbl⟩
        case measure => simp [intOf]; omega
    · obtain rfl : k = 16 := by omega
      have hp := placesB_small hs
      have Hs := Lib.hid hs; clear hs; have Hp := Lib.hid hp; clear hp
      go_wp2_with (go_at_call 90; refine (areDifferent p w.heap.size 0 16 16 (by omega) (by omega) (by omega) _ (fun i hi => by rw [Nat.zero_add]; exact k0.out.byteAt hi)).mono ?_; rintro e wx ⟨rfl, rfl⟩)
      go_ret
      exact ⟨ret_bool Hp.out.symm, (Below.refl _ _).alloc (Nat.le_refl _) _⟩
end Go.Proofs.Ytnkfghoajpghkaa
