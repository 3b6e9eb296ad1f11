/- Contracts: parities of bytes and biases of boxes, by the program and by the reference. No condition. -/
import Derived.Test.YtphfiekhpicpgaaShelf
namespace Go.Proofs.Ytphfiekhpicpgaa
open Go.RowKit Plain
set_option maxHeartbeats 400000 in
theorem l02Odd (x : UInt8) (w : World) :
    Calls Try.prog 79 #[.int .u8 (x.toNat : Int)] w fun e w' => e = .returned (.int .i64 (oddI x)) ∧ w' = w := by
  go_enter Try.func79, Try.ntmps79
  go_wp2
  go_loop [0, 3] (fun y o => ∃ z q : Nat, z ≤ 255 ∧ y = .int .u8 z ∧ o = .int .i64 q ∧ q ≤ 1 ∧ (q + pop z) % 2 = pop x.toNat % 2) (fun y _ => (intOf y).toNat)
  case atStart => exact ⟨x.toNat, 0, by have := x.toNat_lt; omega, rfl, rfl, by omega, by omega⟩
  case round =>
    obtain ⟨z, q, hz, rfl, rfl, hq, hp⟩ := hrel
    by_cases h0 : 0 < z
    · have hs := pop_step (x := z) (by omega)
      have Hp := Lib.hid hp; clear hp; have Hs := Lib.hid hs; clear hs
      have h0' : (0 : Int) < z := by omega
      go_wp2
      go_round
      case rel => exact ⟨z / 2, (q + z % 2) % 2, by omega, by go_num, by go_num, by omega, by have := Hp.out; have := Hs.out; omega⟩
      case measure => simp [intOf]; omega
    · obtain rfl : z = 0 := by omega
      rw [pop_zero] at hp
      have hr : oddI x = q := by unfold oddI; omega
      have Hp := Lib.hid hp; clear hp; have Hr := Lib.hid hr; clear hr
      go_wp2
      go_ret
      exact ⟨ret_int Hr.out.symm, rfl⟩
set_option maxRecDepth 100000 in
set_option maxHeartbeats 400000 in
theorem specBiasOf (b : Nat → UInt8) (u v : UInt8) (w : World) :
    Calls Try.prog 44 #[.agg (byteRow 256 b), .int .u8 (u.toNat : Int), .int .u8 (v.toNat : Int)] w fun e w' => e = .returned (.int .i64 (biasTo b u v 256)) ∧ Below w.heap.size w w' := by
  go_enter Try.func44, Try.ntmps44
  go_wp2
  go_loopw [7, 8] (fun s i wr => ∃ k : Nat, k ≤ 256 ∧ i = .int .i64 k ∧ s = .int .i64 (biasTo b u v k) ∧ Blk wr w.heap.size 27 (byteRow 256 b) ∧ Below w.heap.size w wr)
    (fun _ i _ => 256 - (intOf i).toNat)
  case atStart => exact ⟨0, by omega, rfl, rfl, Blk.new w _ _, (Below.refl _ _).alloc (Nat.le_refl _) _⟩
  case round =>
    obtain ⟨k, hk, rfl, rfl, h0, hb⟩ := hrel
    have hle := biasTo_le b u v k
    by_cases hlt : k < 256
    · have c0 := h0.byteAt hlt
      have hki : (k : Int) < 256 := by omega
      have e1 : bits .and .u8 (k : Int) (u.toNat : Int) = ((UInt8.ofNat k &&& u).toNat : Int) := by rw [← b_and, toNat_ofNat_lt hlt]
      have e2 := b_and (b k) v
      have hstep : biasTo b u v (k + 1) = biasTo b u v k + (if oddI (UInt8.ofNat k &&& u) = oddI (b k &&& v) then 1 else -1) := rfl
      obtain ⟨p, hp⟩ : ∃ p, p = UInt8.ofNat k &&& u := ⟨_, rfl⟩
      obtain ⟨q, hq⟩ : ∃ q, q = b k &&& v := ⟨_, rfl⟩
      rw [← hp] at e1 hstep
      rw [← hq] at e2 hstep
      by_cases he : oddI p = oddI q
      · rw [if_pos he] at hstep
        have he' : (oddI p == oddI q) = true := by simp [he]
        clear he hp hq
        have H0 := Lib.hid h0; clear h0; have Hb := Lib.hid hb; clear hb; have Hstep := Lib.hid hstep; clear hstep
        go_wp2
        go_quiet ((go_at_call 79; exact Calls.quiet_of_same (l02Odd _ _)))
        go_wp2
        go_roundw
        case rel => exact ⟨k + 1, by omega, by go_num, by rw [Hstep.out], H0.out.drewN _, below_drewN' Hb.out _⟩
        case measure => simp [intOf]; omega
      · rw [if_neg he] at hstep
        have he' : (oddI p == oddI q) = false := by simp [he]
        clear he hp hq
        have H0 := Lib.hid h0; clear h0; have Hb := Lib.hid hb; clear hb; have Hstep := Lib.hid hstep; clear hstep
        go_wp2
        go_quiet ((go_at_call 79; exact Calls.quiet_of_same (l02Odd _ _)))
        go_wp2
        go_roundw
        case rel => exact ⟨k + 1, by omega, by go_num, by rw [Hstep.out]; go_num, H0.out.drewN _, below_drewN' Hb.out _⟩
        case measure => simp [intOf]; omega
    · obtain rfl : k = 256 := by omega
      have H0 := Lib.hid h0; clear h0; have Hb := Lib.hid hb; clear hb
      go_wp2
      go_ret
      exact ⟨rfl, Hb.out⟩
set_option maxHeartbeats 400000 in
theorem implOdd (x : UInt8) (w : World) :
    Calls Try.prog 78 #[.int .u8 (x.toNat : Int)] w fun e w' => e = .returned (.int .i64 (oddI x)) ∧ w' = w := by
  have hp := pop_byte x
  have ea := long_and (pop x.toNat) 1 (by omega) (by omega)
  rw [Nat.and_one_is_mod] at ea
  have eo : oddI x = ((pop x.toNat % 2 : Nat) : Int) := rfl
  have eb : bits .and .i64 ((pop x.toNat : Nat) : Int) 1 = oddI x := ea.trans eo.symm
  clear ea eo
  have Hb := Lib.hid eb; clear eb
  go_enter Try.func78, Try.ntmps78
  go_wp2_with (go_at_call 81; refine (onesCount8 x _).mono ?_; rintro e wx ⟨rfl, rfl⟩)
  go_ret
  exact ⟨ret_int Hb.out, rfl⟩
theorem odd_mix (x y : UInt8) : (1 : Int) - 2 * bits .xor .i64 (oddI x) (oddI y) = if oddI x = oddI y then 1 else -1 := by
  rcases oddI_or x with h | h <;> rcases oddI_or y with h2 | h2 <;> rw [h, h2] <;> decide +kernel
set_option maxRecDepth 100000 in
set_option maxHeartbeats 400000 in
theorem implBiasOf (b : Nat → UInt8) (u v : UInt8) (w : World) :
    Calls Try.prog 42 #[.agg (byteRow 256 b), .int .u8 (u.toNat : Int), .int .u8 (v.toNat : Int)] w fun e w' => e = .returned (.int .i64 (biasTo b u v 256)) ∧ Below w.heap.size w w' := by
  go_enter Try.func42, Try.ntmps42
  have k0 := Lib.hid (Blk.new w 27 (byteRow 256 b))
  go_wp2_with (refine wpList_loadH rfl _ _ rfl _ rfl (by assumption) Try.underlying27 rfl size27 (byteRow_size _ _) ?_)
  go_loop [7, 11] (fun s i => ∃ k : Nat, k ≤ 256 ∧ i = .int .i64 k ∧ s = .int .i64 (biasTo b u v k)) (fun _ i => 256 - (intOf i).toNat)
  case atStart => exact ⟨0, by omega, rfl, rfl⟩
  case round =>
    obtain ⟨k, hk, rfl, rfl⟩ := hrel
    have hle := biasTo_le b u v k
    by_cases hlt : k < 256
    · have hki : (k : Int) < 256 := by omega
      have ix := fun (w : World) => run_index_row (w := w) .i64 Try.underlying27 sizeU1 (.inl Try.underlying5) hlt (byteRow_at b hlt)
      have e1 : bits .and .u8 (u.toNat : Int) (k : Int) = ((UInt8.ofNat k &&& u).toNat : Int) := by rw [and_comm8, ← b_and, toNat_ofNat_lt hlt]
      have e2 : bits .and .u8 (v.toNat : Int) ((b k).toNat : Int) = ((b k &&& v).toNat : Int) := by rw [and_comm8, ← b_and]
      have hstep : biasTo b u v (k + 1) = biasTo b u v k + (if oddI (UInt8.ofNat k &&& u) = oddI (b k &&& v) then 1 else -1) := rfl
      obtain ⟨p, hp⟩ : ∃ p, p = UInt8.ofNat k &&& u := ⟨_, rfl⟩
      obtain ⟨q, hq⟩ : ∃ q, q = b k &&& v := ⟨_, rfl⟩
      rw [← hp] at e1 hstep
      rw [← hq] at e2 hstep
      clear hp hq
      have hmix := odd_mix p q
      have hx : 0 ≤ bits .xor .i64 (oddI p) (oddI q) ∧ bits .xor .i64 (oddI p) (oddI q) ≤ 1 := by
        rw [← hmix] at hstep
        split at hmix <;> omega
      obtain ⟨x, hxe⟩ : ∃ x, bits .xor .i64 (oddI p) (oddI q) = x := ⟨_, rfl⟩
      rw [hxe] at hmix hx
      obtain ⟨hx0, hx1⟩ := hx
      rw [← hmix] at hstep
      clear hmix
      have Hstep := Lib.hid hstep; clear hstep
      go_wp2_with (first | (go_at_call_of 78 (Value.int IntKind.u8 (p.toNat : Int)); refine (implOdd p _).mono ?_; rintro e wx ⟨rfl, rfl⟩) | (go_at_call_of 78 (Value.int IntKind.u8 (q.toNat : Int)); refine (implOdd q _).mono ?_; rintro e wx ⟨rfl, rfl⟩))
      go_round
      case rel => exact ⟨k + 1, by omega, by go_num, by rw [Hstep.out]⟩
      case measure => simp [intOf]; omega
    · obtain rfl : k = 256 := by omega
      go_wp2
      go_ret
      exact ⟨rfl, (Below.refl _ _).alloc (Nat.le_refl _) _⟩
end Go.Proofs.Ytphfiekhpicpgaa
