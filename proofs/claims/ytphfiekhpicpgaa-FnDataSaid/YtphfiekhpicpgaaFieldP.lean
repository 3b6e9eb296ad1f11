/- Plain facts: remainders of binary polynomials and products in fields of 256 elements, as the program and as the reference reckon them. No program. -/
namespace Go.Proofs.Ytphfiekhpicpgaa.Plain

theorem bit_iff (x k : Nat) : x / 2 ^ k % 2 = 1 ↔ x.testBit k = true := by
  rw [Nat.testBit_eq_decide_div_mod_eq, decide_eq_true_eq]

/-- One step of the program's remainder: place k, the divisor m of degree d. -/
def rstep (m d k y : Nat) : Nat := if y / 2 ^ k % 2 = 1 then y ^^^ (m * 2 ^ (k - d)) else y
/-- The places below k and from d on. -/
def RI (m d : Nat) : Nat → Nat → Nat
  | 0, y => y
  | k + 1, y => if d ≤ k then RI m d k (rstep m d k y) else y
def restI (a m d : Nat) : Nat := RI m d 16 a

theorem rstep_bit (m d k y : Nat) : rstep m d k y = if y.testBit k = true then y ^^^ (m * 2 ^ (k - d)) else y := by
  unfold rstep
  by_cases h : y.testBit k = true
  · rw [if_pos h, if_pos ((bit_iff y k).2 h)]
  · rw [if_neg h, if_neg (fun e => h ((bit_iff y k).1 e))]
theorem xor4 (x y c : Nat) : (x ^^^ c) ^^^ (y ^^^ c) = x ^^^ y := by
  rw [Nat.xor_assoc, Nat.xor_comm y c, ← Nat.xor_assoc c, Nat.xor_self, Nat.zero_xor]
theorem rstep_xor (m d k x y : Nat) : rstep m d k (x ^^^ y) = rstep m d k x ^^^ rstep m d k y := by
  rw [rstep_bit, rstep_bit, rstep_bit, Nat.testBit_xor]
  cases hx : x.testBit k <;> cases hy : y.testBit k <;> simp
  · rw [Nat.xor_assoc]
  · rw [Nat.xor_assoc, Nat.xor_comm y, ← Nat.xor_assoc]
  · rw [xor4]
theorem RI_xor (m d : Nat) : ∀ k x y, RI m d k (x ^^^ y) = RI m d k x ^^^ RI m d k y
  | 0, _, _ => rfl
  | k + 1, x, y => by
    unfold RI
    split
    · rw [rstep_xor, RI_xor m d k]
    · rfl
theorem restI_xor (x y m d : Nat) : restI (x ^^^ y) m d = restI x m d ^^^ restI y m d := RI_xor m d 16 x y

theorem two_xor (x y : Nat) : (2 * x) ^^^ (2 * y) = 2 * (x ^^^ y) := by
  apply Nat.eq_of_testBit_eq
  intro i
  cases i with
  | zero => simp [Nat.testBit_zero]
  | succ i =>
    rw [Nat.testBit_xor, Nat.testBit_succ, Nat.testBit_succ, Nat.testBit_succ]
    rw [Nat.mul_div_cancel_left _ (by omega), Nat.mul_div_cancel_left _ (by omega), Nat.mul_div_cancel_left _ (by omega), Nat.testBit_xor]
theorem rstep_two (m k y : Nat) (hk : 8 ≤ k) : rstep m 8 (k + 1) (2 * y) = 2 * rstep m 8 k y := by
  rw [rstep_bit, rstep_bit, Nat.testBit_succ, Nat.mul_div_cancel_left _ (by omega)]
  split
  · rw [show k + 1 - 8 = (k - 8) + 1 by omega, Nat.pow_succ, ← two_xor]
    congr 1
    rw [Nat.mul_comm 2, Nat.mul_assoc]
  · rfl
/-- A number of at most nine digits, reduced once. -/
def redB (m z : Nat) : Nat := if z.testBit 8 = true then z ^^^ m else z
theorem RI_two (m : Nat) : ∀ j y, RI m 8 (8 + j + 1) (2 * y) = redB m (2 * RI m 8 (8 + j) y)
  | 0, y => by
    have e1 : RI m 8 (8 + 0 + 1) (2 * y) = RI m 8 8 (rstep m 8 8 (2 * y)) := by
      show (if 8 ≤ 8 then _ else _) = _
      rw [if_pos (Nat.le_refl 8)]
    have e2 : ∀ z, RI m 8 8 z = z := fun z => by
      show (if 8 ≤ 7 then _ else _) = _
      rw [if_neg (by omega)]
    rw [e1, e2, show (8 + 0) = 8 from rfl, e2, rstep_bit]
    unfold redB
    simp
  | j + 1, y => by
    have e1 : RI m 8 (8 + (j + 1) + 1) (2 * y) = RI m 8 (8 + (j + 1)) (rstep m 8 (8 + (j + 1)) (2 * y)) := by
      show (if 8 ≤ 8 + (j + 1) then _ else _) = _
      rw [if_pos (by omega)]
    have e2 : RI m 8 (8 + (j + 1)) y = RI m 8 (8 + j) (rstep m 8 (8 + j) y) := by
      show (if 8 ≤ 8 + j then _ else _) = _
      rw [if_pos (by omega)]
      rfl
    rw [e1, e2, show 8 + (j + 1) = (8 + j) + 1 by omega, rstep_two m (8 + j) y (by omega), RI_two m j]
theorem RI_top (m y : Nat) (h : y < 2 ^ 15) : RI m 8 16 y = RI m 8 15 y := by
  have e1 : RI m 8 16 y = RI m 8 15 (rstep m 8 15 y) := by
    show (if 8 ≤ 15 then _ else _) = _
    rw [if_pos (by omega)]
  rw [e1, rstep_bit, Nat.testBit_lt_two_pow h]
  simp
theorem restI_two (m y : Nat) (h : y < 2 ^ 15) : restI (2 * y) m 8 = redB m (2 * restI y m 8) := by
  unfold restI
  rw [RI_top m y h]
  exact RI_two m 7 y
theorem rstep_lt {m k y : Nat} (h1 : 256 ≤ m) (h2 : m < 512) (hk : 8 ≤ k) (hy : y < 2 ^ (k + 1)) : rstep m 8 k y < 2 ^ k := by
  have hpk : 2 ^ k = 256 * 2 ^ (k - 8) := by rw [show (256 : Nat) = 2 ^ 8 from rfl, ← Nat.pow_add]; congr 1; omega
  have hpos : 0 < 2 ^ (k - 8) := Nat.pow_pos (by omega)
  rw [rstep_bit]
  have hm1 : 2 ^ k ≤ m * 2 ^ (k - 8) := by rw [hpk]; exact Nat.mul_le_mul_right _ h1
  have hm2 : m * 2 ^ (k - 8) < 2 ^ (k + 1) := by
    rw [Nat.pow_succ, hpk]
    have := Nat.mul_lt_mul_of_pos_right h2 hpos
    omega
  split
  · rename_i hb
    apply Nat.lt_pow_two_of_testBit
    intro i hi
    rw [Nat.testBit_xor]
    by_cases hik : i = k
    · subst hik
      have : (m * 2 ^ (i - 8)).testBit i = true := Nat.testBit_of_two_pow_le_and_two_pow_add_one_gt hm1 hm2
      rw [hb, this]
      rfl
    · have hp : 2 ^ (k + 1) ≤ 2 ^ i := Nat.pow_le_pow_right (by omega) (by omega)
      rw [Nat.testBit_lt_two_pow (Nat.lt_of_lt_of_le hy hp), Nat.testBit_lt_two_pow (Nat.lt_of_lt_of_le hm2 hp)]
      rfl
  · rename_i hb
    apply Nat.lt_pow_two_of_testBit
    intro i hi
    by_cases hik : i = k
    · subst hik; simpa using hb
    · have hp : 2 ^ (k + 1) ≤ 2 ^ i := Nat.pow_le_pow_right (by omega) (by omega)
      exact Nat.testBit_lt_two_pow (Nat.lt_of_lt_of_le hy hp)
theorem RI_lt {m : Nat} (h1 : 256 ≤ m) (h2 : m < 512) : ∀ j y, y < 2 ^ (8 + j) → RI m 8 (8 + j) y < 256
  | 0, y, h => by
    have e2 : RI m 8 (8 + 0) y = y := by
      show (if 8 ≤ 7 then _ else _) = _
      rw [if_neg (by omega)]
    rw [e2]
    exact h
  | j + 1, y, h => by
    have e2 : RI m 8 (8 + (j + 1)) y = RI m 8 (8 + j) (rstep m 8 (8 + j) y) := by
      show (if 8 ≤ 8 + j then _ else _) = _
      rw [if_pos (by omega)]
      rfl
    rw [e2]
    exact RI_lt h1 h2 j _ (rstep_lt h1 h2 (by omega) h)
theorem restI_lt {m y : Nat} (h1 : 256 ≤ m) (h2 : m < 512) (hy : y < 65536) : restI y m 8 < 256 := RI_lt h1 h2 8 y hy

/-- The program's product, ahead of the remainder: the places below k of b. -/
def prodI (a b : Nat) : Nat → Nat
  | 0 => 0
  | k + 1 => if b / 2 ^ k % 2 = 1 then prodI a b k ^^^ (a * 2 ^ k) else prodI a b k
theorem prodI_lt {a b : Nat} (ha : a < 256) : ∀ k, k ≤ 8 → prodI a b k < 65536
  | 0, _ => by show (0 : Nat) < _; omega
  | k + 1, h => by
    have ih := prodI_lt (b := b) ha k (by omega)
    unfold prodI
    split
    · refine Nat.xor_lt_two_pow (n := 16) ih ?_
      have hp : 2 ^ k ≤ 2 ^ 7 := Nat.pow_le_pow_right (by omega) (by omega)
      calc a * 2 ^ k ≤ a * 2 ^ 7 := Nat.mul_le_mul_left _ hp
        _ < 2 ^ 16 := by omega
    · exact ih
def timesI (m a b : Nat) : Nat := restI (prodI a b 8) m 8
def red (m z : Nat) : Nat := if 256 ≤ z then z ^^^ m else z
theorem red_eq {m z : Nat} (h : z < 512) : red m z = redB m z := by
  unfold red redB
  by_cases hz : 256 ≤ z
  · rw [if_pos hz, if_pos (Nat.testBit_of_two_pow_le_and_two_pow_add_one_gt (i := 8) hz h)]
  · rw [if_neg hz, if_neg (by rw [Nat.testBit_lt_two_pow (show z < 2 ^ 8 by omega)]; simp)]
/-- The reference's product: f rounds are left. -/
def TS (m : Nat) : Nat → Nat → Nat → Nat → Nat
  | 0, out, _, _ => out
  | f + 1, out, now, r => if r = 0 then out else TS m f (if r % 2 = 1 then out ^^^ now else out) (red m (now * 2)) (r / 2)
def timesS (m a b : Nat) : Nat := TS m 8 0 a b
theorem TS_zero (m : Nat) : ∀ f out now, TS m f out now 0 = out
  | 0, _, _ => rfl
  | _ + 1, _, _ => by unfold TS; rw [if_pos rfl]
theorem restI_small {m y : Nat} (hy : y < 256) : restI y m 8 = y := by
  have : ∀ j, RI m 8 (8 + j) y = y := by
    intro j
    induction j with
    | zero =>
      show (if 8 ≤ 7 then _ else _) = _
      rw [if_neg (by omega)]
    | succ j ih =>
      show (if 8 ≤ 8 + j then RI m 8 (8 + j) (rstep m 8 (8 + j) y) else y) = y
      rw [if_pos (by omega), rstep_bit, Nat.testBit_lt_two_pow (show y < 2 ^ (8 + j) from Nat.lt_of_lt_of_le hy (Nat.pow_le_pow_right (n := 2) (i := 8) (by omega) (by omega)))]
      simpa using ih
  exact this 8
theorem TS_eq {m a b : Nat} (h1 : 256 ≤ m) (h2 : m < 512) (ha : a < 256) (_hb : b < 256) : ∀ k, k ≤ 8 → TS m (8 - k) (restI (prodI a b k) m 8) (restI (a * 2 ^ k) m 8) (b / 2 ^ k) = timesI m a b := by
  have main : ∀ j, j ≤ 8 → TS m j (restI (prodI a b (8 - j)) m 8) (restI (a * 2 ^ (8 - j)) m 8) (b / 2 ^ (8 - j)) = timesI m a b := by
    intro j
    induction j with
    | zero => intro _; rfl
    | succ j ih =>
      intro hj
      have hk : 8 - j = (8 - (j + 1)) + 1 := by omega
      obtain ⟨k, hkk⟩ : ∃ k, k = 8 - (j + 1) := ⟨_, rfl⟩
      rw [← hkk] at hk ⊢
      have ih' := ih (by omega)
      rw [hk] at ih'
      have hk7 : k ≤ 7 := by omega
      have hdiv : b / 2 ^ (k + 1) = b / 2 ^ k / 2 := by rw [Nat.pow_succ, Nat.div_div_eq_div_mul]
      have hak : a * 2 ^ k < 2 ^ 15 := by
        have hp : 2 ^ k ≤ 2 ^ 7 := Nat.pow_le_pow_right (by omega) hk7
        calc a * 2 ^ k ≤ a * 2 ^ 7 := Nat.mul_le_mul_left _ hp
          _ < 2 ^ 15 := by omega
      have hnow : restI (a * 2 ^ (k + 1)) m 8 = red m (restI (a * 2 ^ k) m 8 * 2) := by
        have hlt := restI_lt (m := m) (y := a * 2 ^ k) h1 h2 (by omega)
        rw [red_eq (by omega), Nat.pow_succ, ← Nat.mul_assoc, Nat.mul_comm _ 2, restI_two m _ hak, Nat.mul_comm 2]
      have hout : restI (prodI a b (k + 1)) m 8 = if b / 2 ^ k % 2 = 1 then restI (prodI a b k) m 8 ^^^ restI (a * 2 ^ k) m 8 else restI (prodI a b k) m 8 := by
        show restI (if b / 2 ^ k % 2 = 1 then prodI a b k ^^^ (a * 2 ^ k) else prodI a b k) m 8 = _
        split
        · rw [restI_xor]
        · rfl
      show (if b / 2 ^ k = 0 then _ else _) = _
      by_cases hz : b / 2 ^ k = 0
      · rw [if_pos hz]
        rw [hdiv, hz, show (0 : Nat) / 2 = 0 from rfl, TS_zero, hout, hz, if_neg (by omega)] at ih'
        exact ih'
      · rw [if_neg hz, ← hnow, ← hdiv, ← hout]
        exact ih'
  intro k hk
  have := main (8 - k) (by omega)
  rwa [show 8 - (8 - k) = k by omega] at this
theorem times_eq {m a b : Nat} (h1 : 256 ≤ m) (h2 : m < 512) (ha : a < 256) (hb : b < 256) : timesS m a b = timesI m a b := by
  have := TS_eq h1 h2 ha hb 0 (by omega)
  simp only [Nat.pow_zero, Nat.mul_one, Nat.div_one] at this
  rw [restI_small ha, show prodI a b 0 = 0 from rfl, restI_small (show 0 < 256 by omega)] at this
  exact this
theorem timesI_lt {m a b : Nat} (h1 : 256 ≤ m) (h2 : m < 512) (ha : a < 256) : timesI m a b < 256 := restI_lt h1 h2 (prodI_lt ha 8 (by omega))

/-- How many binary digits. -/
def lenF : Nat → Nat → Nat
  | 0, _ => 0
  | f + 1, x => if x = 0 then 0 else 1 + lenF f (x / 2)
def lenN (x : Nat) : Nat := lenF 20 x
theorem lenF_more : ∀ (f x : Nat), x < 2 ^ f → lenF (f + 1) x = lenF f x
  | 0, x, h => by
    have : x = 0 := by omega
    subst this; rfl
  | f + 1, x, h => by
    rw [lenF, lenF_more f (x / 2) (by rw [Nat.pow_succ] at h; omega)]
    rfl
theorem lenN_step {x : Nat} (h0 : 0 < x) (h : x < 2 ^ 20) : lenN x = 1 + lenN (x / 2) := by
  unfold lenN
  rw [← lenF_more 20 x h, lenF, if_neg (by omega)]
theorem lenN_zero : lenN 0 = 0 := rfl
/-- The reference's remainder, with at most f steps. -/
def RS (b : Nat) : Nat → Nat → Nat
  | 0, a => a
  | f + 1, a => if lenN b ≤ lenN a then RS b f (a ^^^ (b * 2 ^ (lenN a - lenN b))) else a
def restS (a b : Nat) : Nat := RS b 10 a
def rsOK (b a : Nat) : Bool := !(decide (lenN b ≤ lenN a)) || (decide (lenN (a ^^^ (b * 2 ^ (lenN a - lenN b))) < lenN a) && decide (a ^^^ (b * 2 ^ (lenN a - lenN b)) < 512) && decide (b * 2 ^ (lenN a - lenN b) < 65536) && decide (lenN a ≤ 9))
theorem rs_ok : ∀ b, b < 30 → ∀ a, a < 512 → rsOK (b + 2) a = true := by decide +kernel
theorem rs_facts {b a : Nat} (h1 : 2 ≤ b) (h2 : b < 32) (ha : a < 512) (hl : lenN b ≤ lenN a) : lenN (a ^^^ (b * 2 ^ (lenN a - lenN b))) < lenN a ∧ a ^^^ (b * 2 ^ (lenN a - lenN b)) < 512 ∧ b * 2 ^ (lenN a - lenN b) < 65536 ∧ lenN a ≤ 9 := by
  have := rs_ok (b - 2) (by omega) a ha
  rw [show b - 2 + 2 = b by omega] at this
  unfold rsOK at this
  simp only [hl, decide_true, Bool.not_true, Bool.false_or, Bool.and_eq_true, decide_eq_true_eq] at this
  exact ⟨this.1.1.1, this.1.1.2, this.1.2, this.2⟩
theorem len_small : ∀ a, a < 512 → lenN a ≤ 9 := by decide +kernel
def isFS (m : Nat) : Bool := (List.range 30).all fun i => restS m (i + 2) != 0
def isFI (m : Nat) : Bool := (List.range 4).all fun e => (List.range (2 ^ (e + 1))).all fun i => restI m (2 ^ (e + 1) + i) (e + 1) != 0
theorem isF_eq : ∀ m, m < 512 → isFS m = isFI m := by decide +kernel
theorem isFS_false {m i : Nat} (hi : i < 30) (h : restS m (i + 2) = 0) : isFS m = false := by
  cases hf : isFS m with
  | false => rfl
  | true =>
    have := List.all_eq_true.1 hf i (List.mem_range.2 hi)
    rw [h] at this
    cases this
theorem isFS_true {m : Nat} (h : ∀ i, i < 30 → restS m (i + 2) ≠ 0) : isFS m = true :=
  List.all_eq_true.2 fun i hi => by simpa using h i (List.mem_range.1 hi)
def rowOK (m e : Nat) : Bool := (List.range (2 ^ (e + 1))).all fun i => restI m (2 ^ (e + 1) + i) (e + 1) != 0
theorem isFI_false {m e : Nat} (he : e < 4) (h : rowOK m e = false) : isFI m = false := by
  cases hf : isFI m with
  | false => rfl
  | true =>
    have := List.all_eq_true.1 hf e (List.mem_range.2 he)
    unfold rowOK at h
    rw [h] at this
    cases this
theorem isFI_true {m : Nat} (h : ∀ e, e < 4 → rowOK m e = true) : isFI m = true :=
  List.all_eq_true.2 fun e he => h e (List.mem_range.1 he)
theorem rowOK_false {m e i : Nat} (hi : i < 2 ^ (e + 1)) (h : restI m (2 ^ (e + 1) + i) (e + 1) = 0) : rowOK m e = false := by
  cases hf : rowOK m e with
  | false => rfl
  | true =>
    have := List.all_eq_true.1 hf i (List.mem_range.2 hi)
    rw [h] at this
    cases this
theorem rowOK_true {m e : Nat} (h : ∀ i, i < 2 ^ (e + 1) → restI m (2 ^ (e + 1) + i) (e + 1) ≠ 0) : rowOK m e = true :=
  List.all_eq_true.2 fun i hi => by simpa using h i (List.mem_range.1 hi)
end Go.Proofs.Ytphfiekhpicpgaa.Plain
