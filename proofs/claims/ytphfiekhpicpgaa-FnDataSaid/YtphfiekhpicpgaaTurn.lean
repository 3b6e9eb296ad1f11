/- Contracts: a byte rotated to the left, by the program and by the reference. No condition. -/
import Derived.Test.YtphfiekhpicpgaaRows
import Derived.Test.YtphfiekhpicpgaaKit
set_option linter.unusedVariables false
namespace Go.Proofs.Ytphfiekhpicpgaa
open Go.RowKit
def turnN (x k : Nat) : Nat := (x * 2 ^ k ||| x * 2 ^ k / 256) % 256
def turnV (x : UInt8) (k : Nat) : UInt8 := UInt8.ofNat (turnN x.toNat k)
theorem turnV_nat (x : UInt8) (k : Nat) : (turnV x k).toNat = turnN x.toNat k := toNat_ofNat_lt (Nat.mod_lt _ (by omega))
theorem turn_shl : ∀ k, k < 8 → ∀ x, x < 256 → (x * 2 ^ k % 256 ||| x / 2 ^ (8 - k)) = turnN x k := by decide +kernel
theorem turn_and : ∀ k, k < 8 → ∀ x, x < 256 → (x * 2 ^ k ||| x * 2 ^ k / 256) &&& 255 = turnN x k := by decide +kernel
theorem wrap64_nat {m : Nat} (h : m < 9223372036854775808) : wrap64 (m : Int) = m := by
  unfold wrap64
  omega
theorem and_seven : ∀ k : Nat, k < 8 → bits .and .u64 (k : Int) 7 = (k : Int) := by decide +kernel
theorem ret_u8N {a b : Nat} (h : a = b) : Ending.returned (.int .u8 (a : Int)) = .returned (.int .u8 (b : Int)) := by rw [h]
set_option maxRecDepth 100000 in
set_option maxHeartbeats 400000 in
theorem l02Turn (x : UInt8) (k : Nat) (hk : k < 8) (w : World) :
    Calls Try.prog 88 #[.int .u8 (x.toNat : Int), .int .i64 (k : Int)] w fun e w' => e = .returned (.int .u8 ((turnV x k).toNat : Int)) ∧ w' = w := by
  have hx := x.toNat_lt
  obtain ⟨m, hm⟩ : ∃ m, x.toNat * 2 ^ k = m := ⟨_, rfl⟩
  have hp : 2 ^ k ≤ 128 := Nat.pow_le_pow_right (n := 2) (by omega) (show k ≤ 7 by omega)
  have hm2 : m ≤ 32768 := by rw [← hm]; exact Nat.le_trans (Nat.mul_le_mul (show x.toNat ≤ 256 by omega) hp) (by omega)
  have f1 : (x.toNat : Int) * 2 ^ k = (m : Int) := by rw [← hm]; push_cast; rfl
  have f2 : wrap64 (m : Int) = m := wrap64_nat (by omega)
  obtain ⟨q, hq⟩ : ∃ q, m / 256 = q := ⟨_, rfl⟩
  have f3 : (m : Int) / 256 = (q : Int) := by omega
  obtain ⟨z, hz⟩ : ∃ z, m ||| q = z := ⟨_, rfl⟩
  have f4 : bits .or .i64 (m : Int) (q : Int) = (z : Int) := by rw [long_or m q (by omega) (by omega), hz]
  have hz2 : z < 65536 := by rw [← hz]; exact Nat.or_lt_two_pow (n := 16) (by omega) (by omega)
  obtain ⟨t, ht⟩ : ∃ t, z &&& 255 = t := ⟨_, rfl⟩
  have f5 : bits .and .i64 (z : Int) 255 = (t : Int) := by
    have := long_and z 255 (by omega) (by omega)
    rw [ht] at this
    exact this
  have ht2 : t < 256 := by rw [← ht]; exact Nat.lt_succ_of_le Nat.and_le_right
  have f6 : (t : Int) % 256 = t := by omega
  have hv : (turnV x k).toNat = t := by rw [turnV_nat, ← ht, ← hz, ← hq, ← hm]; exact (turn_and k hk x.toNat x.toNat_lt).symm
  clear hm hp hq hz ht
  have Hv := Lib.hid hv; clear hv
  go_enter Try.func88, Try.ntmps88
  go_wp2
  go_ret
  exact ⟨ret_u8N Hv.out.symm, rfl⟩
set_option maxRecDepth 100000 in
set_option maxHeartbeats 400000 in
theorem rotateLeft8 (x : UInt8) (k : Nat) (hk : k < 8) (w : World) :
    Calls Try.prog 60 #[.int .u8 (x.toNat : Int), .int .i64 (k : Int)] w fun e w' => e = .returned (.int .u8 ((turnV x k).toNat : Int)) ∧ w' = w := by
  have hx := x.toNat_lt
  have f0 := and_seven k hk
  obtain ⟨r, hr⟩ : ∃ r, 8 - k = r := ⟨_, rfl⟩
  have f1 : (8 : Int) - (k : Int) = (r : Int) := by omega
  have hr8 : r ≤ 8 := by omega
  obtain ⟨m, hm⟩ : ∃ m, x.toNat * 2 ^ k % 256 = m := ⟨_, rfl⟩
  obtain ⟨q, hq⟩ : ∃ q, x.toNat / 2 ^ r = q := ⟨_, rfl⟩
  have f2 : (x.toNat : Int) * 2 ^ k % 256 = (m : Int) := by rw [← hm]; push_cast; rfl
  have f3 : (x.toNat : Int) / 2 ^ r = (q : Int) := by rw [← hq]; push_cast; rfl
  have hm2 : m < 256 := by rw [← hm]; exact Nat.mod_lt _ (by omega)
  have hq2 : q < 256 := by rw [← hq]; exact Nat.lt_of_le_of_lt (Nat.div_le_self _ _) hx
  obtain ⟨z, hz⟩ : ∃ z, m ||| q = z := ⟨_, rfl⟩
  have f4 : bits .or .u8 (m : Int) (q : Int) = (z : Int) := by
    have := b_or (UInt8.ofNat m) (UInt8.ofNat q)
    rw [toNat_ofNat_lt hm2, toNat_ofNat_lt hq2, UInt8.toNat_or, toNat_ofNat_lt hm2, toNat_ofNat_lt hq2, hz] at this
    exact this
  have hv : (turnV x k).toNat = z := by rw [turnV_nat, ← hz, ← hm, ← hq, ← hr]; exact (turn_shl k hk x.toNat hx).symm
  clear hr hm hq hz
  have Hv := Lib.hid hv; clear hv
  go_enter Try.func60, Try.ntmps60
  go_wp2
  go_ret
  exact ⟨ret_u8N Hv.out.symm, rfl⟩
end Go.Proofs.Ytphfiekhpicpgaa
