/- Plain facts on hex texts, and contracts of the digits, by the program and by the reference. No condition. -/
import Derived.Test.YtphfiekhpicpgaaRows
import Derived.Test.YtphfiekhpicpgaaBytes
import Derived.Test.YtphfiekhpicpgaaSlices
set_option linter.unusedVariables false
namespace Go.Proofs.Ytphfiekhpicpgaa
open Go.RowKit
def digN (c : UInt8) : Nat := if c.toNat ≤ 57 then c.toNat - 48 else c.toNat - 87
def digOk (c : UInt8) : Bool := (decide (48 ≤ c.toNat) && decide (c.toNat ≤ 57)) || (decide (97 ≤ c.toNat) && decide (c.toNat ≤ 102))
def digM (c : UInt8) : Nat := if digOk c = true then digN c else 0
def digV (c : UInt8) : Int := if digOk c = true then (digN c : Int) else -1
theorem digN_lt {c : UInt8} (h : digOk c = true) : digN c < 16 := by
  unfold digOk at h
  unfold digN
  simp only [Bool.or_eq_true, Bool.and_eq_true, decide_eq_true_eq] at h
  split <;> omega
theorem dig_low {c : UInt8} (h1 : 48 ≤ c.toNat) (h2 : c.toNat ≤ 57) : digOk c = true ∧ digN c = c.toNat - 48 :=
  ⟨by unfold digOk; rw [decide_eq_true h1, decide_eq_true h2]; rfl, by unfold digN; rw [if_pos h2]⟩
theorem dig_high {c : UInt8} (h1 : 97 ≤ c.toNat) (h2 : c.toNat ≤ 102) : digOk c = true ∧ digN c = c.toNat - 87 :=
  ⟨by unfold digOk; rw [decide_eq_true h1, decide_eq_true h2]; simp, by unfold digN; rw [if_neg (by omega)]⟩
theorem dig_no {c : UInt8} (h1 : ¬ (48 ≤ c.toNat ∧ c.toNat ≤ 57)) (h2 : ¬ (97 ≤ c.toNat ∧ c.toNat ≤ 102)) : digOk c = false := by
  cases h : digOk c with
  | false => rfl
  | true =>
    unfold digOk at h
    simp only [Bool.or_eq_true, Bool.and_eq_true, decide_eq_true_eq] at h
    rcases h with h | h
    · exact absurd h h1
    · exact absurd h h2
def unhexTo (f : Nat → UInt8) : Nat → Option (List UInt8)
  | 0 => some []
  | k + 1 => match unhexTo f k with
    | none => none
    | some l => if digOk (f (2 * k)) = true ∧ digOk (f (2 * k + 1)) = true then some (l ++ [UInt8.ofNat (16 * digN (f (2 * k)) + digN (f (2 * k + 1)))]) else none
def strF (s : ByteArray) (i : Nat) : UInt8 := s.data.getD i 0
def unhex (s : ByteArray) : Option (List UInt8) := if s.size % 2 = 1 then none else unhexTo (strF s) (s.size / 2)
theorem unhexTo_length {f : Nat → UInt8} : ∀ {k : Nat} {l : List UInt8}, unhexTo f k = some l → l.length = k
  | 0, l, h => by
    obtain rfl : [] = l := Option.some.inj h
    rfl
  | k + 1, l, h => by
    unfold unhexTo at h
    cases hk : unhexTo f k with
    | none => rw [hk] at h; cases h
    | some l0 =>
      rw [hk] at h
      have h : (if digOk (f (2 * k)) = true ∧ digOk (f (2 * k + 1)) = true then some (l0 ++ [UInt8.ofNat (16 * digN (f (2 * k)) + digN (f (2 * k + 1)))]) else none) = some l := h
      split at h
      · obtain rfl := Option.some.inj h
        rw [List.length_append, unhexTo_length hk]
        rfl
      · cases h
theorem unhexTo_none {f : Nat → UInt8} {k : Nat} (h : unhexTo f k = none) : ∀ n, k ≤ n → unhexTo f n = none
  | 0, hn => by
    obtain rfl : k = 0 := by omega
    exact h
  | n + 1, hn => by
    by_cases he : k = n + 1
    · subst he; exact h
    · unfold unhexTo
      rw [unhexTo_none h n (by omega)]
theorem unhexTo_step {f : Nat → UInt8} {k : Nat} {l : List UInt8} (h : unhexTo f k = some l) : unhexTo f (k + 1) = if digOk (f (2 * k)) = true ∧ digOk (f (2 * k + 1)) = true then some (l ++ [UInt8.ofNat (16 * digN (f (2 * k)) + digN (f (2 * k + 1)))]) else none := by
  conv => lhs; unfold unhexTo
  rw [h]
theorem strF_at {s : ByteArray} {i : Nat} (h : i < s.size) : s[i]'h = strF s i := by
  unfold strF
  have h2 : i < s.data.size := h
  show s.data[i] = s.data.getD i 0
  rw [Array.getD_eq_getD_getElem?, Array.getElem?_eq_getElem h2]
  rfl
def Unhexed (s : ByteArray) (e : Ending) (w w' : World) : Prop :=
  (∃ v l, unhex s = some l ∧ e = .returned (.tuple #[v, .bool true]) ∧ LB w' w.heap.size 5 v l ∧ Below w.heap.size w w') ∨ (unhex s = none ∧ e = .returned (.tuple #[.slice none 0 0, .bool false]) ∧ Below w.heap.size w w')
theorem one_cell {w : World} {n : Nat} {e : TypeId} {x : UInt8} (h : w.heap.size = n) : ∀ (j : Nat) (z : UInt8), [x][j]? = some z → (w.alloc (.cells #[.int .u8 (x.toNat : Int)] e)).cell? ⟨n, 0 + j, none⟩ = some (.int .u8 (z.toNat : Int)) := by
  intro j z hz
  rw [Nat.zero_add, (Blk.newAt h).cell j]
  match j, hz with
  | 0, hz => obtain rfl : x = z := by simpa using hz
             rfl
  | j + 1, hz => simp at hz
theorem one_cellV {w : World} {n : Nat} {e : TypeId} {c : Value} {x : UInt8} (h : w.heap.size = n) (hc : c = .int .u8 (x.toNat : Int)) : ∀ (j : Nat) (z : UInt8), [x][j]? = some z → (w.alloc (.cells #[c] e)).cell? ⟨n, 0 + j, none⟩ = some (.int .u8 (z.toNat : Int)) := by
  subst hc
  exact one_cell h
theorem or_hex : ∀ a, a < 16 → ∀ b, b < 16 → (UInt8.ofNat (a * 16) ||| UInt8.ofNat b).toNat = 16 * a + b := by decide +kernel
theorem bits_hex {a b : Nat} (ha : a < 16) (hb : b < 16) : bits .or .u8 ((a * 16 : Nat) : Int) (b : Int) = ((16 * a + b : Nat) : Int) := by
  have := b_or (UInt8.ofNat (a * 16)) (UInt8.ofNat b)
  rw [toNat_ofNat_lt (by omega), toNat_ofNat_lt (by omega), or_hex a ha b hb] at this
  exact this
theorem unhex_even {s : ByteArray} {m : Nat} (h : s.size = 2 * m) : unhex s = unhexTo (strF s) m := by
  unfold unhex
  rw [if_neg (by omega), h, Nat.mul_div_cancel_left m (by omega)]
theorem wrapU8_nat {q : Nat} (h : q < 256) : IntKind.u8.wrap (q : Int) = q := by
  rw [IntKind.wrap_u8]
  omega
theorem ret_i64 {a b : Int} (h : a = b) : Ending.returned (.int .i64 a) = .returned (.int .i64 b) := by rw [h]
theorem ret_digit {a b : Int} {x y : Bool} (h : a = b) (h2 : x = y) : Ending.returned (.tuple #[.int .u8 a, .bool x]) = .returned (.tuple #[.int .u8 b, .bool y]) := by rw [h, h2]
set_option maxRecDepth 100000 in
set_option maxHeartbeats 400000 in
theorem l01Digit (c : UInt8) (w : World) :
    Calls Try.prog 91 #[.int .u8 (c.toNat : Int)] w fun e w' => e = .returned (.int .i64 (digV c)) ∧ w' = w := by
  have hc := c.toNat_lt
  by_cases h1 : 48 ≤ c.toNat ∧ c.toNat ≤ 57
  · obtain ⟨ho, hn⟩ := dig_low h1.1 h1.2
    obtain ⟨d, hd⟩ : ∃ d, c.toNat - 48 = d := ⟨_, rfl⟩
    have hv : digV c = (d : Int) := by unfold digV; rw [if_pos ho, hn, hd]
    have a1 : (48 : Int) ≤ (c.toNat : Int) := by omega
    have a2 : (c.toNat : Int) ≤ 57 := by omega
    have a3 : (c.toNat : Int) - 48 = (d : Int) := by omega
    have a4 := wrapU8_nat (q := d) (by omega)
    clear h1 ho hn hd
    have Hv := Lib.hid hv; clear hv
    go_enter Try.func91, Try.ntmps91
    go_wp2
    go_ret
    exact ⟨ret_i64 Hv.out.symm, rfl⟩
  · by_cases h2 : 97 ≤ c.toNat ∧ c.toNat ≤ 102
    · obtain ⟨ho, hn⟩ := dig_high h2.1 h2.2
      obtain ⟨d, hd⟩ : ∃ d, c.toNat - 97 = d := ⟨_, rfl⟩
      have hv : digV c = (d : Int) + 10 := by unfold digV; rw [if_pos ho, hn]; omega
      have a1 : (97 : Int) ≤ (c.toNat : Int) := by omega
      have a2 : (c.toNat : Int) ≤ 102 := by omega
      have a5 : (48 : Int) ≤ (c.toNat : Int) := by omega
      have a6 : ¬ (c.toNat : Int) ≤ 57 := by omega
      have a3 : (c.toNat : Int) - 97 = (d : Int) := by omega
      have a4 := wrapU8_nat (q := d) (by omega)
      have a7 : d < 6 := by omega
      clear h1 h2 ho hn hd
      have Hv := Lib.hid hv; clear hv
      go_enter Try.func91, Try.ntmps91
      go_wp2
      go_ret
      exact ⟨ret_i64 Hv.out.symm, rfl⟩
    · have ho := dig_no h1 h2
      have hv : digV c = -1 := by unfold digV; rw [if_neg (by rw [ho]; simp)]
      have Hv := Lib.hid hv; clear hv
      clear ho
      by_cases b1 : 48 ≤ c.toNat
      · by_cases b2 : 97 ≤ c.toNat
        · have a1 : (48 : Int) ≤ (c.toNat : Int) := by omega
          have a2 : ¬ (c.toNat : Int) ≤ 57 := by omega
          have a3 : (97 : Int) ≤ (c.toNat : Int) := by omega
          have a4 : ¬ (c.toNat : Int) ≤ 102 := by omega
          clear h1 h2 b1 b2
          go_enter Try.func91, Try.ntmps91
          go_wp2
          go_ret
          exact ⟨ret_i64 Hv.out.symm, rfl⟩
        · have a1 : (48 : Int) ≤ (c.toNat : Int) := by omega
          have a2 : ¬ (c.toNat : Int) ≤ 57 := by omega
          have a3 : ¬ (97 : Int) ≤ (c.toNat : Int) := by omega
          clear h1 h2 b1 b2
          go_enter Try.func91, Try.ntmps91
          go_wp2
          go_ret
          exact ⟨ret_i64 Hv.out.symm, rfl⟩
      · have a1 : ¬ (48 : Int) ≤ (c.toNat : Int) := by omega
        have a3 : ¬ (97 : Int) ≤ (c.toNat : Int) := by omega
        clear h1 h2 b1
        go_enter Try.func91, Try.ntmps91
        go_wp2
        go_ret
        exact ⟨ret_i64 Hv.out.symm, rfl⟩
set_option maxRecDepth 100000 in
set_option maxHeartbeats 400000 in
theorem hexDigit (c : UInt8) (w : World) :
    Calls Try.prog 90 #[.int .u8 (c.toNat : Int)] w fun e w' => e = .returned (.tuple #[.int .u8 (digM c : Int), .bool (digOk c)]) ∧ w' = w := by
  have hc := c.toNat_lt
  by_cases h1 : 48 ≤ c.toNat ∧ c.toNat ≤ 57
  · obtain ⟨ho, hn⟩ := dig_low h1.1 h1.2
    obtain ⟨d, hd⟩ : ∃ d, c.toNat - 48 = d := ⟨_, rfl⟩
    have hv : (digM c : Int) = (d : Int) := by unfold digM; rw [if_pos ho, hn, hd]
    have a1 : (48 : Int) ≤ (c.toNat : Int) := by omega
    have a2 : (c.toNat : Int) ≤ 57 := by omega
    have a3 : (c.toNat : Int) - 48 = (d : Int) := by omega
    have a4 := wrapU8_nat (q := d) (by omega)
    clear h1 hn hd
    have Hv := Lib.hid hv; clear hv; have Ho := Lib.hid ho; clear ho
    go_enter Try.func90, Try.ntmps90
    go_wp2
    go_ret2
    exact ⟨ret_digit Hv.out.symm Ho.out.symm, rfl⟩
  · by_cases h2 : 97 ≤ c.toNat ∧ c.toNat ≤ 102
    · obtain ⟨ho, hn⟩ := dig_high h2.1 h2.2
      obtain ⟨d, hd⟩ : ∃ d, c.toNat - 97 = d := ⟨_, rfl⟩
      obtain ⟨z, hz⟩ : ∃ z, d + 10 = z := ⟨_, rfl⟩
      have hv : (digM c : Int) = (z : Int) := by unfold digM; rw [if_pos ho, hn]; omega
      have a1 : (97 : Int) ≤ (c.toNat : Int) := by omega
      have a2 : (c.toNat : Int) ≤ 102 := by omega
      have a5 : (48 : Int) ≤ (c.toNat : Int) := by omega
      have a6 : ¬ (c.toNat : Int) ≤ 57 := by omega
      have a3 : (c.toNat : Int) - 97 = (d : Int) := by omega
      have a4 := wrapU8_nat (q := d) (by omega)
      have a8 : (d : Int) + 10 = (z : Int) := by omega
      have a9 := wrapU8_nat (q := z) (by omega)
      have a7 : d < 6 := by omega
      clear h1 h2 hn hd hz
      have Hv := Lib.hid hv; clear hv; have Ho := Lib.hid ho; clear ho
      go_enter Try.func90, Try.ntmps90
      go_wp2
      go_ret2
      exact ⟨ret_digit Hv.out.symm Ho.out.symm, rfl⟩
    · have ho := dig_no h1 h2
      have hv : (digM c : Int) = 0 := by unfold digM; rw [if_neg (by rw [ho]; simp)]; rfl
      have Hv := Lib.hid hv; clear hv; have Ho := Lib.hid ho; clear ho
      by_cases b1 : 48 ≤ c.toNat
      · by_cases b2 : 97 ≤ c.toNat
        · have a1 : (48 : Int) ≤ (c.toNat : Int) := by omega
          have a2 : ¬ (c.toNat : Int) ≤ 57 := by omega
          have a3 : (97 : Int) ≤ (c.toNat : Int) := by omega
          have a4 : ¬ (c.toNat : Int) ≤ 102 := by omega
          clear h1 h2 b1 b2
          go_enter Try.func90, Try.ntmps90
          go_wp2
          go_ret2
          exact ⟨ret_digit Hv.out.symm Ho.out.symm, rfl⟩
        · have a1 : (48 : Int) ≤ (c.toNat : Int) := by omega
          have a2 : ¬ (c.toNat : Int) ≤ 57 := by omega
          have a3 : ¬ (97 : Int) ≤ (c.toNat : Int) := by omega
          clear h1 h2 b1 b2
          go_enter Try.func90, Try.ntmps90
          go_wp2
          go_ret2
          exact ⟨ret_digit Hv.out.symm Ho.out.symm, rfl⟩
      · have a1 : ¬ (48 : Int) ≤ (c.toNat : Int) := by omega
        have a3 : ¬ (97 : Int) ≤ (c.toNat : Int) := by omega
        clear h1 h2 b1
        go_enter Try.func90, Try.ntmps90
        go_wp2
        go_ret2
        exact ⟨ret_digit Hv.out.symm Ho.out.symm, rfl⟩
end Go.Proofs.Ytphfiekhpicpgaa
