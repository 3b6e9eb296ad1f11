/- Plain facts on boxes of powers and of rotations. No program. -/
import Derived.Test.YtphfiekhpicpgaaRows
import Derived.Test.YtphfiekhpicpgaaPowBox
import Derived.Test.YtphfiekhpicpgaaFieldA
import Derived.Test.YtphfiekhpicpgaaRot
set_option linter.unusedVariables false
namespace Go.Proofs.Ytphfiekhpicpgaa
open Plain
theorem PW_gen {m : Nat} (h : m ∈ fieldList) : ∀ f x y r, r < 2 ^ f → PW m f (lpw m (genOf m) x) (lpw m (genOf m) y) r = lpw m (genOf m) (x + y * r)
  | 0, x, y, r, hr => by
    obtain rfl : r = 0 := by have : (2 : Nat) ^ 0 = 1 := rfl; omega
    rfl
  | f + 1, x, y, r, hr => by
    unfold PW
    by_cases h0 : r = 0
    · subst h0
      rw [if_pos rfl]
      rfl
    · rw [if_neg h0, gen_add h y y]
      have hr2 : r / 2 < 2 ^ f := by rw [Nat.pow_succ] at hr; omega
      have e2 : (y + y) * (r / 2) = y * (2 * (r / 2)) := by rw [← Nat.two_mul, Nat.mul_comm 2 y, Nat.mul_assoc]
      by_cases h1 : r % 2 = 1
      · rw [if_pos h1, gen_add h x y, PW_gen h f _ _ _ hr2, e2]
        congr 1
        have : y * r = y * (2 * (r / 2)) + y := by conv => lhs; rw [show r = 2 * (r / 2) + 1 by omega]; rw [Nat.mul_add, Nat.mul_one]
        omega
      · rw [if_neg h1, PW_gen h f _ _ _ hr2, e2, show 2 * (r / 2) = r by omega]
theorem powN_gen {m : Nat} (h : m ∈ fieldList) (i k : Nat) (hk : k < 2 ^ 32) : powN m (lpw m (genOf m) i) k = lpw m (genOf m) (i * k) := by
  unfold powN
  have := PW_gen h 32 0 i k hk
  rw [Nat.zero_add] at this
  exact this
theorem gen_mod {m : Nat} (h : m ∈ fieldList) (a : Nat) : lpw m (genOf m) a = lpw m (genOf m) (a % 255) := by
  have hl := lpw_lt (g := genOf m) (mem_bounds m h).1 (mem_bounds m h).2 (a % 255)
  have e := gen_add h (255 * (a / 255)) (a % 255)
  rw [gen_periods h, one_left h hl, Nat.div_add_mod] at e
  exact e.symm
theorem prodI_zero_right (a : Nat) : ∀ k, prodI a 0 k = 0
  | 0 => rfl
  | k + 1 => by
    have := prodI_xor_right a 0 0 (k + 1)
    rw [Nat.xor_self, Nat.xor_self] at this
    exact this
theorem timesI_zero_right (m a : Nat) : timesI m a 0 = 0 := by
  have := timesI_xor_right m a 0 0
  rw [Nat.xor_self, Nat.xor_self] at this
  exact this
theorem PW_none (m : Nat) : ∀ f o r, r < 2 ^ f → PW m f o 0 r = if r = 0 then o else 0
  | 0, o, r, hr => by
    obtain rfl : r = 0 := by have : (2 : Nat) ^ 0 = 1 := rfl; omega
    rfl
  | f + 1, o, r, hr => by
    unfold PW
    by_cases h0 : r = 0
    · rw [if_pos h0, if_pos h0]
    · have hr2 : r / 2 < 2 ^ f := by rw [Nat.pow_succ] at hr; omega
      rw [if_neg h0, if_neg h0, timesI_zero_right, timesI_zero_right, PW_none m f _ _ hr2]
      by_cases h1 : r % 2 = 1
      · rw [if_pos h1]; split <;> rfl
      · rw [if_neg h1, if_neg (by omega)]
def prodK (k n : Nat) : Nat := if k * n % 255 = 0 then 255 else k * n % 255
theorem prodK_in (k n : Nat) : 1 ≤ prodK k n ∧ prodK k n ≤ 255 := by
  unfold prodK
  have := Nat.mod_lt (k * n) (show 0 < 255 by omega)
  split <;> omega
theorem pow_pow {m : Nat} (h : m ∈ fieldList) {x k n : Nat} (hx : x < 256) (hk : 1 ≤ k) (hk2 : k ≤ 255) (hn : 1 ≤ n) (hn2 : n ≤ 255) : powN m (powN m x k) n = powN m x (prodK k n) := by
  have h32 : (2 : Nat) ^ 32 = 4294967296 := rfl
  obtain ⟨p1, p2⟩ := prodK_in k n
  rcases Nat.eq_zero_or_pos x with h0 | h0
  · subst h0
    have z : ∀ k, 1 ≤ k → k ≤ 255 → powN m 0 k = 0 := fun k h1 h2 => by
      unfold powN
      rw [PW_none m 32 1 k (by omega), if_neg (by omega)]
    rw [z k hk hk2, z n hn hn2, z _ p1 p2]
  · obtain ⟨i, hi, rfl⟩ := gen_cover h h0 hx
    rw [powN_gen h i k (by omega), powN_gen h _ n (by omega), powN_gen h i _ (by omega), gen_mod h (i * k * n), gen_mod h (i * prodK k n)]
    congr 1
    rw [Nat.mul_assoc]
    unfold prodK
    rw [Nat.mul_mod i (k * n)]
    split
    · rename_i e
      rw [e, Nat.mul_zero, Nat.mul_mod_left]
    · rw [Nat.mul_mod i (k * n % 255), Nat.mod_mod]
theorem powBox_pow {m k n : Nat} (hf : fieldB m = true) (hk : 1 ≤ k) (hk2 : k ≤ 255) (hn : 1 ≤ n) (hn2 : n ≤ 255) : byteRow 256 (thenOf (powF m k) (powF m n)) = byteRow 256 (powF m (prodK k n)) := byteRow_congr fun x hx => by
  obtain ⟨m', e, h1, h2, h3⟩ := fieldB_nat hf
  obtain rfl : m = m' := by omega
  have hm := mem_of_field h1 h2 h3
  show UInt8.ofNat (powN m (UInt8.ofNat (powN m x k)).toNat n) = UInt8.ofNat (powN m x (prodK k n))
  rw [toNat_ofNat_lt (powN_lt h1 h2 hx), pow_pow hm hx hk hk2 hn hn2]
theorem inB_1 {k : Nat} : inB (k : Int) 1 255 = (decide (1 ≤ k) && decide (k ≤ 255)) := by
  unfold inB
  rw [Bool.eq_iff_iff]
  simp only [Bool.and_eq_true, decide_eq_true_eq]
  omega
theorem powBox_good {m k : Nat} (hf : fieldB m = true) (hk : 1 ≤ k) (hk2 : k ≤ 255) : powBoxV m k = powF m k ∧ powBoxC m k = 0 := by
  unfold powBoxV powBoxC
  rw [hf, inB_1, decide_eq_true hk, decide_eq_true hk2]
  exact ⟨rfl, rfl⟩
theorem powBox_bad {m k : Nat} (h : ¬ (fieldB m = true ∧ 1 ≤ k ∧ k ≤ 255)) : powBoxV m k = (fun _ => 0) ∧ powBoxC m k ≠ 0 := by
  unfold powBoxV powBoxC
  rw [inB_1]
  cases hf : fieldB m with
  | false => exact ⟨rfl, by rw [if_neg (by decide)]; decide⟩
  | true =>
    have : (decide (1 ≤ k) && decide (k ≤ 255)) = false := by
      rw [Bool.eq_false_iff]
      intro e
      simp only [Bool.and_eq_true, decide_eq_true_eq] at e
      exact h ⟨hf, e.1, e.2⟩
    rw [this]
    exact ⟨rfl, by decide⟩
theorem powerIn_box {m k x : Nat} (hf : fieldB m = true) (hk : k ≤ 255) (hx : x < 256) : powerV m x k = (((powF m k x).toNat : Int), 0) := by
  obtain ⟨m', e, h1, h2, h3⟩ := fieldB_nat hf
  obtain rfl : m = m' := by omega
  have : inB (k : Int) 0 1000000000 = true := by
    unfold inB
    simp only [Bool.and_eq_true, decide_eq_true_eq]
    omega
  unfold powerV
  rw [hf, this]
  show ((powN m x k : Int), (0 : Int)) = _
  have e : (powF m k x).toNat = powN m x k := toNat_ofNat_lt (powN_lt h1 h2 hx)
  rw [e]
theorem turn_ends : ∀ k, k < 8 → turnV 0 k = 0 ∧ turnV 255 k = 255 := by decide +kernel
theorem rot_ends {f : Nat → Int} (c : UInt8) : ∀ n, (∀ i, i < n → (f i).toNat < 8) → rotTo f c 0 n = c ∧ rotTo f c 255 n = if n % 2 = 1 then c ^^^ 255 else c
  | 0, _ => ⟨rfl, rfl⟩
  | n + 1, h => by
    obtain ⟨h1, h2⟩ := rot_ends c n fun i hi => h i (by omega)
    obtain ⟨t1, t2⟩ := turn_ends _ (h n (by omega))
    refine ⟨?_, ?_⟩
    · show rotTo f c 0 n ^^^ turnV 0 (f n).toNat = c
      rw [h1, t1, UInt8.xor_zero]
    · show rotTo f c 255 n ^^^ turnV 255 (f n).toNat = _
      rw [h2, t2]
      by_cases e : n % 2 = 1
      · rw [if_pos e, if_neg (by omega), UInt8.xor_assoc, UInt8.xor_self, UInt8.xor_zero]
      · rw [if_neg e, if_pos (by omega)]
theorem rotBx_ends {f : Nat → Int} {n : Nat} (c : UInt8) (h : rotGood n f = true) : rotBx f n c 0 = c ∧ rotBx f n c 255 = if n % 2 = 1 then c ^^^ 255 else c := by
  unfold rotGood at h
  rw [Bool.and_eq_true] at h
  exact rot_ends c n fun i hi => by have := rotB_in h.2 i hi; omega
end Go.Proofs.Ytphfiekhpicpgaa
