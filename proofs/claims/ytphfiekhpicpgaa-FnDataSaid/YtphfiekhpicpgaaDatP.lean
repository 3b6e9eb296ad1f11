/- Plain facts: bytes come back from their hex text; an exclusive or done twice is none. No program, no condition. -/
import Derived.Test.YtphfiekhpicpgaaRows
import Derived.Test.YtphfiekhpicpgaaBytesOf
import Derived.Test.YtphfiekhpicpgaaDatOf
import Derived.Test.YtphfiekhpicpgaaXor
set_option linter.unusedVariables false
namespace Go.Proofs.Ytphfiekhpicpgaa
open Go.RowKit Plain
theorem dig_hexC : ∀ q, q < 16 → digOk (hexC q) = true ∧ digN (hexC q) = q := by decide +kernel
theorem hexL_at (b : Nat → UInt8) : ∀ n k, k < n → (hexL b n)[2 * k]? = some (hexC ((b k).toNat / 16)) ∧ (hexL b n)[2 * k + 1]? = some (hexC ((b k).toNat % 16))
  | 0, k, h => absurd h (Nat.not_lt_zero k)
  | n + 1, k, h => by
    have hl := hexL_length b n
    unfold hexL
    by_cases hk : k < n
    · rw [List.getElem?_append_left (by omega), List.getElem?_append_left (by omega)]
      exact hexL_at b n k hk
    · obtain rfl : k = n := by omega
      rw [List.getElem?_append_right (by omega), List.getElem?_append_right (by omega), hl, Nat.sub_self, Nat.add_sub_cancel_left]
      exact ⟨rfl, rfl⟩
theorem strF_hex (b : Nat → UInt8) {n k : Nat} (h : k < n) : strF (hexS b n) (2 * k) = hexC ((b k).toNat / 16) ∧ strF (hexS b n) (2 * k + 1) = hexC ((b k).toNat % 16) := by
  obtain ⟨h1, h2⟩ := hexL_at b n k h
  unfold strF hexS
  constructor
  · rw [Array.getD_eq_getD_getElem?]
    show ((hexL b n).toArray[2 * k]?).getD 0 = _
    rw [List.getElem?_toArray, h1]
    rfl
  · rw [Array.getD_eq_getD_getElem?]
    show ((hexL b n).toArray[2 * k + 1]?).getD 0 = _
    rw [List.getElem?_toArray, h2]
    rfl
theorem unhexTo_hex (b : Nat → UInt8) (n : Nat) : ∀ k, k ≤ n → unhexTo (strF (hexS b n)) k = some (bytL b k)
  | 0, _ => rfl
  | k + 1, h => by
    rw [unhexTo_step (unhexTo_hex b n k (by omega))]
    obtain ⟨h1, h2⟩ := strF_hex b (show k < n by omega)
    have hb := (b k).toNat_lt
    have d1 := dig_hexC ((b k).toNat / 16) (by omega)
    have d2 := dig_hexC ((b k).toNat % 16) (by omega)
    rw [h1, h2, if_pos ⟨d1.1, d2.1⟩, d1.2, d2.2, show 16 * ((b k).toNat / 16) + (b k).toNat % 16 = (b k).toNat by omega, UInt8.ofNat_toNat, bytL_one]
theorem hexS_size (b : Nat → UInt8) (n : Nat) : (hexS b n).size = 2 * n := by
  show (hexL b n).toArray.size = 2 * n
  rw [List.size_toArray, hexL_length]
theorem unhex_hex (b : Nat → UInt8) (n : Nat) : unhex (hexS b n) = some (bytL b n) := by
  rw [unhex_even (hexS_size b n)]
  exact unhexTo_hex b n n (Nat.le_refl n)
theorem bytL_at (b : Nat → UInt8) {n i : Nat} (h : i < n) : (bytL b n).getD i 0 = b i := by
  unfold bytL
  rw [List.getD_eq_getElem?_getD, List.getElem?_map, List.getElem?_range h]
  rfl
/-- The bytes of the text of some bytes. -/
theorem byts_hex (b : Nat → UInt8) {n : Nat} (h : n ≤ 2000) : bytsC (hexS b n) = 0 ∧ bytsL (hexS b n) = bytL b n :=
  let r := byts_some (unhex_hex b n) (by rw [bytL_len]; exact h)
  ⟨r.2, r.1⟩
theorem xor_back (a b : Nat → UInt8) : xorOf (xorOf a b) b = a := by
  funext i
  show (a i ^^^ b i) ^^^ b i = a i
  rw [UInt8.xor_assoc, UInt8.xor_self, UInt8.xor_zero]
theorem dat_back {n : Nat} (h : n ≤ 2000) (h2 : n % 16 = 0) : datN (blkN n) = n ∧ datC (blkN n) = 0 := by
  obtain ⟨e, _⟩ := blk_some h h2
  rw [e]
  obtain ⟨e1, e2⟩ := dat_some (n := n / 16) (by omega)
  rw [e1, e2]
  omega
theorem blkC_zero {n : Nat} (h : blkC n = 0) : n ≤ 2000 ∧ n % 16 = 0 := by
  by_cases h1 : n ≤ 2000
  · by_cases h2 : n % 16 = 0
    · exact ⟨h1, h2⟩
    · rw [(blk_odd h1 h2).2] at h
      cases h
  · rw [(blk_not h1).2] at h
    cases h
theorem hexK_zero {n : Nat} (h : n ≤ 2000) : hexK n = 0 := if_pos h
theorem hexK_two {n : Nat} (h : ¬ n ≤ 2000) : hexK n = 2 := if_neg h
theorem hexV_small {n : Nat} (b : Nat → UInt8) (h : n ≤ 2000) : hexV n b = hexS b n := if_pos h
end Go.Proofs.Ytphfiekhpicpgaa
