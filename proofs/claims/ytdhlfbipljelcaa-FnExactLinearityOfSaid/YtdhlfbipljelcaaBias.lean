/- Contracts: parities of bytes and biases of boxes, by the program and by the reference. No condition. -/
import Derived.Test.YtdhlfbipljelcaaShelf
namespace Go.Proofs.Ytdhlfbipljelcaa
open Go.RowKit Plain
set_option maxHeartbeats 400000 in
theorem l02Odd (x : UInt8) (w : World) :
    Calls Try.prog 76 #[.int .u8 (x.toNat : Int)] w fun e w' => e = .returned (.int .i64 (oddI x)) ∧ w' = w := by
  go_enter Try.func76, Try.ntmps76
  go_wp2
  go_loop [0, 3] (fun y o => ∃ z q : Nat, z ≤ 255 ∧ y = .int .u8 z ∧ o = .int .i64 q ∧ q ≤ 1 ∧ (q + pop z) % 2 = pop x.toNat % 2) (fun y _ => (intOf y).toNat)
  case atStart => exact ⟨x.toNat, 0, by have := x.toNat_lt; omega, rfl, rfl, by omega, by omega⟩
  case round =>
    obtain ⟨z, q, hz, rfl, rfl, hq, hp⟩ := hrel
    by_cases h0 : 0 < z
    · have hs := pop_step (x := z) (by omega)
      have Hp := Lib.hid hp; clear hp; have Hs := Lib.hid hs; clear hs
      have h0' : (0 : Int) < z := by omega
      go_wp2
      go_round
      case rel => exact ⟨z / 2, (q + z % 2) % 2, by omega, by go_num, by go_num, by omega, by have := Hp.out; have := Hs.out; omega⟩
      case measure => simp [intOf]; omega
    · obtain rfl : z = 0 := by omega
      rw [pop_zero] at hp
      have hr : oddI x = q := by unfold oddI; omega
      have Hp := Lib.hid hp; clear hp; have Hr := Lib.hid hr; clear hr
      go_wp2
      go_ret
      exact ⟨ret_int Hr.out.symm, rfl⟩
set_option maxHeartbeats 400000 in
theorem implOdd (x : UInt8) (w : World) :
    Calls Try.prog 55 #[.int .u8 (x.toNat : Int)] w fun e w' => e = .returned (.int .i64 (oddI x)) ∧ w' = w := by
  have hp := pop_byte x
  have ea := long_and (pop x.toNat) 1 (by omega) (by omega)
  rw [Nat.and_one_is_mod] at ea
  have eo : oddI x = ((pop x.toNat % 2 : Nat) : Int) := rfl
  have eb : bits .and .i64 ((pop x.toNat : Nat) : Int) 1 = oddI x := ea.trans eo.symm
  clear ea eo
  have Hb := Lib.hid eb; clear eb
  go_enter Try.func55, Try.ntmps55
  go_wp2_with (go_at_call 77; refine (onesCount8 x _).mono ?_; rintro e wx ⟨rfl, rfl⟩)
  go_ret
  exact ⟨ret_int Hb.out, rfl⟩
end Go.Proofs.Ytdhlfbipljelcaa
