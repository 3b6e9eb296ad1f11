/- Contracts: products and powers in fields, by the program and by the reference. No condition. -/
import Derived.Test.YtphfiekhpicpgaaRows
import Derived.Test.YtphfiekhpicpgaaField
namespace Go.Proofs.Ytphfiekhpicpgaa
open Go.RowKit Plain
theorem div_pow_cast (y k : Nat) : ((y : Int) / 2 ^ k) = ((y / 2 ^ k : Nat) : Int) := by push_cast; rfl
theorem u8_bit {y : Nat} (k : Nat) (hy : y < 256) : bits .and .u8 ((y : Int) / 2 ^ k) 1 = ((y / 2 ^ k % 2 : Nat) : Int) := by
  have h := u8_and_nat (y / 2 ^ k) 1 (Nat.lt_of_le_of_lt (Nat.div_le_self _ _) hy) (by omega)
  rw [Nat.and_one_is_mod] at h
  rw [← h]
  push_cast
  rfl
set_option maxRecDepth 100000 in
set_option maxHeartbeats 400000 in
theorem l01Times (m a b : Nat) (h1 : 256 ≤ m) (h2 : m < 512) (ha : a < 256) (hb : b < 256) (w : World) :
    Calls Try.prog 87 #[.int .i64 (m : Int), .int .u8 (a : Int), .int .u8 (b : Int)] w fun e w' => e = .returned (.int .u8 (timesI m a b : Int)) ∧ w' = w := by
  have hlt := timesI_lt (m := m) (a := a) (b := b) h1 h2 ha
  have hte : TS m 8 0 a b = timesI m a b := times_eq h1 h2 ha hb
  have Hlt := Lib.hid hlt; clear hlt; have Hte := Lib.hid hte; clear hte
  go_enter Try.func87, Try.ntmps87
  go_wp2
  go_loop [7, 8, 9] (fun x y z => ∃ o n r f : Nat, o < 256 ∧ n < 256 ∧ r < 2 ^ f ∧ f ≤ 8 ∧ x = .int .i64 o ∧ y = .int .i64 n ∧ z = .int .i64 r ∧ TS m f o n r = timesI m a b) (fun _ _ z => (intOf z).toNat)
  case atStart => exact ⟨0, a, b, 8, by omega, ha, hb, by omega, rfl, rfl, rfl, Hte.out⟩
  case round =>
    obtain ⟨o, n, r, f, ho, hn, hr, hf, rfl, rfl, rfl, he⟩ := hrel
    by_cases h0 : r = 0
    · subst h0
      have he2 : timesI m a b = o := by rw [← he, TS_zero]
      clear he
      have He2 := Lib.hid he2; clear he2
      go_wp2
      go_ret
      exact ⟨ret_int (by rw [He2.out]), rfl⟩
    · have hr0 : (0 : Int) < r := by omega
      obtain ⟨g, rfl⟩ : ∃ g, f = g + 1 := ⟨f - 1, by
        have : f ≠ 0 := fun e => by subst e; omega
        omega⟩
      have hr2 : r / 2 < 2 ^ g := by rw [Nat.pow_succ] at hr; omega
      have hr256 : r < 256 := Nat.lt_of_lt_of_le hr (show 2 ^ (g + 1) ≤ 2 ^ 8 from Nat.pow_le_pow_right (by omega) hf)
      have he2 : TS m g (if r % 2 = 1 then o ^^^ n else o) (red m (n * 2)) (r / 2) = timesI m a b := by
        rw [← he]
        show _ = if r = 0 then _ else _
        rw [if_neg h0]
      have hrl : red m (n * 2) < 256 := by
        unfold red
        split
        · rename_i hh
          have e1 := red_eq (m := m) (z := n * 2) (by omega)
          have e2 := restI_lt (m := m) (y := n * 2) h1 h2 (by omega)
          have e3 := restI_two m n (by omega)
          rw [restI_small hn, Nat.mul_comm 2 n, ← e1] at e3
          unfold red at e3
          rw [if_pos hh] at e3
          rw [← e3]
          exact e2
        · omega
      clear he hr
      by_cases hp : r % 2 = 1
      · have e1 : ((r : Int) % 2 == 1) = true := by rw [beq_iff_eq]; omega
        have ex := long_xor o n (by omega) (by omega)
        have hol : o ^^^ n < 256 := Nat.xor_lt_two_pow (n := 8) ho hn
        rw [if_pos hp] at he2
        by_cases hq : 128 ≤ n
        · have eq : (256 : Int) ≤ n * 2 := by omega
          have ex2 := long_xor (n * 2) m (by omega) (by omega)
          have ex3 : bits .xor .i64 ((n : Int) * 2) (m : Int) = ((n * 2 ^^^ m : Nat) : Int) := by rw [← ex2]; push_cast; rfl
          have er : red m (n * 2) = n * 2 ^^^ m := by unfold red; rw [if_pos (by omega)]
          rw [er] at hrl he2
          clear er ex2
          have He2 := Lib.hid he2; clear he2
          go_wp2
          go_round
          case rel => exact ⟨o ^^^ n, n * 2 ^^^ m, r / 2, g, hol, hrl, hr2, by omega, rfl, rfl, by go_num, He2.out⟩
          case measure => simp [intOf]; omega
        · have eq : (n : Int) * 2 < 256 := by omega
          have er : red m (n * 2) = n * 2 := by unfold red; rw [if_neg (by omega)]
          rw [er] at hrl he2
          clear er
          have He2 := Lib.hid he2; clear he2
          go_wp2
          go_round
          case rel => exact ⟨o ^^^ n, n * 2, r / 2, g, hol, hrl, hr2, by omega, rfl, by go_num, by go_num, He2.out⟩
          case measure => simp [intOf]; omega
      · have e1 : ((r : Int) % 2 == 1) = false := by rw [beq_eq_false_iff_ne]; omega
        rw [if_neg hp] at he2
        by_cases hq : 128 ≤ n
        · have eq : (256 : Int) ≤ n * 2 := by omega
          have ex2 := long_xor (n * 2) m (by omega) (by omega)
          have ex3 : bits .xor .i64 ((n : Int) * 2) (m : Int) = ((n * 2 ^^^ m : Nat) : Int) := by rw [← ex2]; push_cast; rfl
          have er : red m (n * 2) = n * 2 ^^^ m := by unfold red; rw [if_pos (by omega)]
          rw [er] at hrl he2
          clear er ex2
          have He2 := Lib.hid he2; clear he2
          go_wp2
          go_round
          case rel => exact ⟨o, n * 2 ^^^ m, r / 2, g, ho, hrl, hr2, by omega, rfl, rfl, by go_num, He2.out⟩
          case measure => simp [intOf]; omega
        · have eq : (n : Int) * 2 < 256 := by omega
          have er : red m (n * 2) = n * 2 := by unfold red; rw [if_neg (by omega)]
          rw [er] at hrl he2
          clear er
          have He2 := Lib.hid he2; clear he2
          go_wp2
          go_round
          case rel => exact ⟨o, n * 2, r / 2, g, ho, hrl, hr2, by omega, rfl, by go_num, by go_num, He2.out⟩
          case measure => simp [intOf]; omega
set_option maxRecDepth 100000 in
set_option maxHeartbeats 400000 in
theorem fTimes (m a b : Nat) (h1 : 256 ≤ m) (h2 : m < 512) (ha : a < 256) (hb : b < 256) (w : World) :
    Calls Try.prog 85 #[.int .i64 (m : Int), .int .u8 (a : Int), .int .u8 (b : Int)] w fun e w' => e = .returned (.int .u8 (timesI m a b : Int)) ∧ w' = w := by
  have hlt := timesI_lt (m := m) (a := a) (b := b) h1 h2 ha
  have hpl := prodI_lt (a := a) (b := b) ha
  have Hlt := Lib.hid hlt; clear hlt; have Hpl := Lib.hid hpl; clear hpl
  go_enter Try.func85, Try.ntmps85
  go_wp2
  go_loop [7, 9] (fun x y => ∃ k : Nat, k ≤ 8 ∧ x = .int .i64 (prodI a b k : Int) ∧ y = .int .i64 k) (fun _ z => 8 - (intOf z).toNat)
  case atStart => exact ⟨0, by omega, rfl, rfl⟩
  case round =>
    obtain ⟨k, hk, rfl, rfl⟩ := hrel
    by_cases hlt : k < 8
    · have hki : (k : Int) < 8 := by omega
      have hp := Hpl.out k (by omega)
      have ea := u8_bit k hb
      have ep : prodI a b (k + 1) = if b / 2 ^ k % 2 = 1 then prodI a b k ^^^ (a * 2 ^ k) else prodI a b k := rfl
      by_cases hbit : b / 2 ^ k % 2 = 1
      · have e1 : (bits .and .u8 ((b : Int) / 2 ^ k) 1 == 1) = true := by rw [ea, hbit]; rfl
        have ak : a * 2 ^ k < 65536 := by
          have hp : 2 ^ k ≤ 2 ^ 7 := Nat.pow_le_pow_right (by omega) (by omega)
          calc a * 2 ^ k ≤ a * 2 ^ 7 := Nat.mul_le_mul_left _ hp
            _ < 65536 := by omega
        have es := sh_mul a k ak
        have ey := lx_mul (y := prodI a b k) hp ak
        rw [if_pos hbit] at ep
        rw [← ep] at ey
        clear ea ep hbit hp ak
        go_wp2
        go_round
        case rel => exact ⟨k + 1, by omega, rfl, by go_num⟩
        case measure => simp [intOf]; omega
      · have e1 : (bits .and .u8 ((b : Int) / 2 ^ k) 1 == 1) = false := by
          rw [ea, beq_eq_false_iff_ne]
          intro e
          exact hbit (by omega)
        rw [if_neg hbit] at ep
        clear ea hbit hp
        go_wp2
        go_round
        case rel => exact ⟨k + 1, by omega, by rw [ep], by go_num⟩
        case measure => simp [intOf]; omega
    · obtain rfl : k = 8 := by omega
      have hp := Hpl.out 8 (by omega)
      have cr := rest (prodI a b 8) m 8 hp (by omega) (by omega) (by omega)
      have Cr := Lib.hid cr
      clear cr hp
      have hl2 : restI (prodI a b 8) m 8 < 256 := Hlt.out
      go_wp2_with (go_at_call 84; refine (Cr.out _).mono ?_; rintro e wx ⟨rfl, rfl⟩)
      go_ret
      exact ⟨ret_int (by unfold timesI; rfl), rfl⟩
end Go.Proofs.Ytphfiekhpicpgaa
