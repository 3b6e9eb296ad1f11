/- Plain facts: the fields' products are associative by a generator; every element other than 0 is one of its powers. No program. -/
import Derived.Test.YtphfiekhpicpgaaPower
import Derived.Test.YtphfiekhpicpgaaPlain
namespace Go.Proofs.Ytphfiekhpicpgaa.Plain
def fieldList : List Nat := [283, 285, 299, 301, 313, 319, 333, 351, 355, 357, 361, 369, 375, 379, 391, 395, 397, 415, 419, 425, 433, 445, 451, 463, 471, 477, 487, 499, 501, 505]
def genOf (m : Nat) : Nat := (leastB (fun x => match m, x with
  | 379, 9 | 395, 6 | 433, 6 | 477, 6 | 499, 6 | 445, 7 | 471, 7 => true
  | 283, 3 | 313, 3 | 319, 3 | 375, 3 | 415, 3 | 419, 3 | 505, 3 => true
  | 379, _ | 395, _ | 433, _ | 477, _ | 499, _ | 445, _ | 471, _ => false
  | 283, _ | 313, _ | 319, _ | 375, _ | 415, _ | 419, _ | 505, _ => false
  | _, 2 => true
  | _, _ => false) 10).getD 0
theorem field_mem : ∀ i, i < 256 → isFI (256 + i) = true → (256 + i) ∈ fieldList := by decide +kernel
theorem mem_of_field {m : Nat} (h1 : 256 ≤ m) (h2 : m < 512) (h : isFS m = true) : m ∈ fieldList := by
  have := field_mem (m - 256) (by omega) (by rw [show 256 + (m - 256) = m by omega, ← isF_eq m h2]; exact h)
  rwa [show 256 + (m - 256) = m by omega] at this
theorem mem_bounds : ∀ m ∈ fieldList, 256 ≤ m ∧ m < 512 := by decide
/- additive in each place -/
theorem mul_pow_xor (x y k : Nat) : (x ^^^ y) * 2 ^ k = (x * 2 ^ k) ^^^ (y * 2 ^ k) := by
  rw [← Nat.shiftLeft_eq, ← Nat.shiftLeft_eq, ← Nat.shiftLeft_eq, Nat.shiftLeft_xor_distrib]
theorem xor_mid (a b c d : Nat) : (a ^^^ b) ^^^ (c ^^^ d) = (a ^^^ c) ^^^ (b ^^^ d) := by
  rw [Nat.xor_assoc, Nat.xor_assoc, ← Nat.xor_assoc b, Nat.xor_comm b c, Nat.xor_assoc c]
theorem prodI_xor_left (x y b : Nat) : ∀ k, prodI (x ^^^ y) b k = prodI x b k ^^^ prodI y b k
  | 0 => by simp [prodI]
  | k + 1 => by
    unfold prodI
    split
    · rw [prodI_xor_left x y b k, mul_pow_xor, xor_mid]
    · exact prodI_xor_left x y b k
theorem prodI_xor_right (a x y : Nat) : ∀ k, prodI a (x ^^^ y) k = prodI a x k ^^^ prodI a y k
  | 0 => by simp [prodI]
  | k + 1 => by
    unfold prodI
    rw [prodI_xor_right a x y k]
    simp only [bit_iff, Nat.testBit_xor]
    cases hx : x.testBit k <;> cases hy : y.testBit k <;> simp
    · rw [Nat.xor_assoc]
    · rw [Nat.xor_assoc, Nat.xor_assoc, Nat.xor_comm (prodI a y k)]
    · rw [xor4]
theorem timesI_xor_left (m x y b : Nat) : timesI m (x ^^^ y) b = timesI m x b ^^^ timesI m y b := by
  unfold timesI
  rw [prodI_xor_left, restI_xor]
theorem timesI_xor_right (m a x y : Nat) : timesI m a (x ^^^ y) = timesI m a x ^^^ timesI m a y := by
  unfold timesI
  rw [prodI_xor_right, restI_xor]
theorem split_top {k x : Nat} (h1 : 2 ^ k ≤ x) (h2 : x < 2 ^ (k + 1)) : x = 2 ^ k ^^^ (x - 2 ^ k) := by
  obtain ⟨r, rfl⟩ : ∃ r, x = 2 ^ k + r := ⟨x - 2 ^ k, by omega⟩
  have hlt : r < 2 ^ k := by rw [Nat.pow_succ] at h2; omega
  rw [Nat.add_sub_cancel_left]
  have := Nat.two_pow_add_eq_or_of_lt hlt 1
  rw [Nat.mul_one] at this
  rw [this]
  apply Nat.eq_of_testBit_eq
  intro i
  rw [Nat.testBit_xor, Nat.testBit_or, Nat.testBit_two_pow]
  by_cases hik : k = i
  · subst hik
    rw [Nat.testBit_lt_two_pow hlt]
    simp
  · simp [hik]
theorem ext_basis {f g : Nat → Nat} (hf : ∀ x y, f (x ^^^ y) = f x ^^^ f y) (hg : ∀ x y, g (x ^^^ y) = g x ^^^ g y) {n : Nat} (hb : ∀ i, i < n → f (2 ^ i) = g (2 ^ i)) : ∀ k, k ≤ n → ∀ x, x < 2 ^ k → f x = g x
  | 0, _, x, hx => by
    obtain rfl : x = 0 := by omega
    have e1 := hf 0 0
    have e2 := hg 0 0
    rw [Nat.xor_self, Nat.xor_self] at e1 e2
    rw [e1, e2]
  | k + 1, hk, x, hx => by
    by_cases h : x < 2 ^ k
    · exact ext_basis hf hg hb k (by omega) x h
    · rw [split_top (by omega) hx, hf, hg, hb k (by omega), ext_basis hf hg hb k (by omega) _ (by rw [Nat.pow_succ] at hx; omega)]
theorem ext8 {f g : Nat → Nat} (hf : ∀ x y, f (x ^^^ y) = f x ^^^ f y) (hg : ∀ x y, g (x ^^^ y) = g x ^^^ g y) (hb : ∀ i, i < 8 → f (2 ^ i) = g (2 ^ i)) {x : Nat} (hx : x < 256) : f x = g x :=
  ext_basis hf hg hb 8 (by omega) x hx
/- by the generator -/
def assocB (m : Nat) : Bool := (List.range 8).all fun i => (List.range 8).all fun j => timesS m (timesS m (2 ^ i) (2 ^ j)) (genOf m) == timesS m (2 ^ i) (timesS m (2 ^ j) (genOf m))
theorem assoc_ok : ∀ m ∈ fieldList, assocB m = true := by decide +kernel
def gpow (m g : Nat) : Nat → Nat
  | 0 => 1
  | k + 1 => timesS m (gpow m g k) g
/-- the powers' places, as a mask, and no 1 on the way -/
def gmask (m g : Nat) : Nat → Nat → Nat → Nat × Nat
  | 0, x, s => (x, s)
  | k + 1, x, s => gmask m g k (timesS m x g) (s ||| 2 ^ x)
theorem mask_ok : ∀ m ∈ fieldList, gmask m (genOf m) 255 1 0 = (1, 2 ^ 256 - 2) ∧ 2 ≤ genOf m ∧ genOf m < 10 := by decide +kernel
theorem genOf_lt {m : Nat} (h : m ∈ fieldList) : genOf m < 256 := by have := (mask_ok m h).2.2; omega
theorem timesI_zero_left (m b : Nat) : timesI m 0 b = 0 := by
  have := timesI_xor_left m 0 0 b
  rwa [Nat.xor_self, Nat.xor_self] at this
theorem assoc_gen {m : Nat} (h : m ∈ fieldList) {x y : Nat} (hx : x < 256) (hy : y < 256) : timesI m (timesI m x y) (genOf m) = timesI m x (timesI m y (genOf m)) := by
  obtain ⟨h1, h2⟩ := mem_bounds m h
  have hg := genOf_lt h
  refine ext8 (f := fun x => timesI m (timesI m x y) (genOf m)) (g := fun x => timesI m x (timesI m y (genOf m))) (fun a b => by rw [timesI_xor_left, timesI_xor_left]) (fun a b => by rw [timesI_xor_left]) (fun i hi => ?_) hx
  have hpi : 2 ^ i < 256 := show 2 ^ i < 2 ^ 8 from Nat.pow_lt_pow_right (by omega) hi
  refine ext8 (f := fun y => timesI m (timesI m (2 ^ i) y) (genOf m)) (g := fun y => timesI m (2 ^ i) (timesI m y (genOf m))) (fun a b => by rw [timesI_xor_right, timesI_xor_left]) (fun a b => by rw [timesI_xor_left, timesI_xor_right]) (fun j hj => ?_) hy
  have hpj : 2 ^ j < 256 := show 2 ^ j < 2 ^ 8 from Nat.pow_lt_pow_right (by omega) hj
  have := assoc_ok m h
  unfold assocB at this
  have := List.all_eq_true.1 (List.all_eq_true.1 this i (List.mem_range.2 hi)) j (List.mem_range.2 hj)
  rw [beq_iff_eq, times_eq h1 h2 hpi hpj, times_eq h1 h2 hpj hg, times_eq h1 h2 (timesI_lt h1 h2 hpi) hg, times_eq h1 h2 hpi (timesI_lt h1 h2 hpj)] at this
  exact this
theorem one_basis : ∀ m ∈ fieldList, ∀ i, i < 8 → timesS m 1 (2 ^ i) = 2 ^ i ∧ timesS m (2 ^ i) 1 = 2 ^ i := by decide +kernel
theorem one_left {m : Nat} (h : m ∈ fieldList) {x : Nat} (hx : x < 256) : timesI m 1 x = x := by
  obtain ⟨h1, h2⟩ := mem_bounds m h
  refine ext8 (f := fun x => timesI m 1 x) (g := fun x => x) (fun a b => timesI_xor_right _ _ _ _) (fun _ _ => rfl) (fun i hi => ?_) hx
  have hpi : 2 ^ i < 256 := show 2 ^ i < 2 ^ 8 from Nat.pow_lt_pow_right (by omega) hi
  have := (one_basis m h i hi).1
  rwa [times_eq h1 h2 (by omega) hpi] at this
theorem one_right {m : Nat} (h : m ∈ fieldList) {x : Nat} (hx : x < 256) : timesI m x 1 = x := by
  obtain ⟨h1, h2⟩ := mem_bounds m h
  refine ext8 (f := fun x => timesI m x 1) (g := fun x => x) (fun a b => timesI_xor_left _ _ _ _) (fun _ _ => rfl) (fun i hi => ?_) hx
  have hpi : 2 ^ i < 256 := show 2 ^ i < 2 ^ 8 from Nat.pow_lt_pow_right (by omega) hi
  have := (one_basis m h i hi).2
  rwa [times_eq h1 h2 hpi (by omega)] at this
/-- the generator's powers add -/
theorem gen_add {m : Nat} (h : m ∈ fieldList) (i : Nat) : ∀ j, timesI m (lpw m (genOf m) i) (lpw m (genOf m) j) = lpw m (genOf m) (i + j)
  | 0 => one_right h (lpw_lt (mem_bounds m h).1 (mem_bounds m h).2 _)
  | j + 1 => by
    obtain ⟨h1, h2⟩ := mem_bounds m h
    show timesI m _ (timesI m (lpw m (genOf m) j) (genOf m)) = timesI m (lpw m (genOf m) (i + j)) (genOf m)
    rw [← assoc_gen h (lpw_lt h1 h2 _) (lpw_lt h1 h2 _), gen_add h i j]
theorem gmask_spec {m g : Nat} (h1 : 256 ≤ m) (h2 : m < 512) (hg : g < 256) : ∀ k j s, (gmask m g k (lpw m g j) s).1 = lpw m g (j + k) ∧ ∀ x, (gmask m g k (lpw m g j) s).2.testBit x = (s.testBit x || decide (∃ i, i < k ∧ lpw m g (j + i) = x))
  | 0, j, s => ⟨rfl, fun x => by simp [gmask]⟩
  | k + 1, j, s => by
    have e : timesS m (lpw m g j) g = lpw m g (j + 1) := times_eq h1 h2 (lpw_lt h1 h2 j) hg
    obtain ⟨r1, r2⟩ := gmask_spec h1 h2 hg k (j + 1) (s ||| 2 ^ lpw m g j)
    unfold gmask
    rw [e]
    refine ⟨by rw [r1]; congr 1; omega, fun x => ?_⟩
    rw [r2 x, Nat.testBit_or, Nat.testBit_two_pow, Bool.or_assoc]
    congr 1
    rw [← Bool.decide_or]
    apply decide_eq_decide.2
    constructor
    · rintro (hh | ⟨i, hi, hh⟩)
      · exact ⟨0, by omega, hh⟩
      · exact ⟨i + 1, by omega, by rw [← hh]; congr 1; omega⟩
    · rintro ⟨i, hi, hh⟩
      cases i with
      | zero => exact .inl hh
      | succ i => exact .inr ⟨i, by omega, by rw [← hh]; congr 1; omega⟩
theorem gen_255 {m : Nat} (h : m ∈ fieldList) : lpw m (genOf m) 255 = 1 := by
  obtain ⟨h1, h2⟩ := mem_bounds m h
  have e := (gmask_spec h1 h2 (genOf_lt h) 255 0 0).1
  have := (mask_ok m h).1
  rw [show lpw m (genOf m) 0 = 1 from rfl, this] at e
  simpa using e.symm
theorem gen_cover {m : Nat} (h : m ∈ fieldList) {a : Nat} (h0 : 0 < a) (ha : a < 256) : ∃ i, i < 255 ∧ lpw m (genOf m) i = a := by
  obtain ⟨h1, h2⟩ := mem_bounds m h
  have e := (gmask_spec h1 h2 (genOf_lt h) 255 0 0).2 a
  have := (mask_ok m h).1
  rw [show lpw m (genOf m) 0 = 1 from rfl, this] at e
  have hb : (2 ^ 256 - 2 : Nat).testBit a = true := by
    have : ∀ a, a < 255 → (2 ^ 256 - 2 : Nat).testBit (a + 1) = true := by decide +kernel
    have := this (a - 1) (by omega)
    rwa [show a - 1 + 1 = a by omega] at this
  rw [hb, Nat.zero_testBit, Bool.false_or] at e
  have := of_decide_eq_true e.symm
  simpa using this
theorem gen_mul {m : Nat} (h : m ∈ fieldList) (i : Nat) : ∀ k, lpw m (lpw m (genOf m) i) k = lpw m (genOf m) (i * k)
  | 0 => rfl
  | k + 1 => by
    show timesI m (lpw m (lpw m (genOf m) i) k) (lpw m (genOf m) i) = _
    rw [gen_mul h i k, gen_add h]
    rfl
theorem gen_periods {m : Nat} (h : m ∈ fieldList) : ∀ k, lpw m (genOf m) (255 * k) = 1
  | 0 => rfl
  | k + 1 => by
    rw [Nat.mul_add, ← gen_add h, gen_periods h k]
    show timesI m 1 (lpw m (genOf m) 255) = 1
    rw [gen_255 h, one_left h (by omega)]
theorem pow_255 {m : Nat} (h : m ∈ fieldList) {a : Nat} (h0 : 0 < a) (ha : a < 256) : lpw m a 255 = 1 := by
  obtain ⟨i, _, rfl⟩ := gen_cover h h0 ha
  rw [gen_mul h, Nat.mul_comm, gen_periods h]
theorem least_of {p : Nat → Bool} {n k : Nat} (hk : k < n) (hp : p k = true) : ∃ j, leastB p n = some j ∧ j ≤ k ∧ p j = true ∧ ∀ i, i < j → p i = false := by
  induction k using Nat.strongRecOn with
  | _ k ih =>
    by_cases hall : ∀ r, r < k → p r = false
    · exact ⟨k, leastB_some hk hp hall, Nat.le_refl k, hp, hall⟩
    · have hne : ∃ r, r < k ∧ p r = true := by
        apply Classical.byContradiction
        intro hn
        apply hall
        intro r hr
        cases hh : p r with
        | false => rfl
        | true => exact absurd ⟨r, hr, hh⟩ hn
      obtain ⟨r, hr, hre⟩ := hne
      obtain ⟨j, h1, h2, h3⟩ := ih r hr (by omega) hre
      exact ⟨j, h1, by omega, h3⟩
/-- The order: the least k from 1 on with a power that is 1. -/
def ordP (m a j : Nat) : Bool := lpw m a (j + 1) == 1
def orderN (m a : Nat) : Nat := (leastB (ordP m a) 255).getD 0 + 1
theorem order_some {m : Nat} (h : m ∈ fieldList) {a : Nat} (h0 : 0 < a) (ha : a < 256) : ∃ j, j < 255 ∧ lpw m a (j + 1) = 1 ∧ (∀ i, i < j → lpw m a (i + 1) ≠ 1) ∧ orderN m a = j + 1 := by
  obtain ⟨j, h1, h2, h3, h4⟩ := least_of (p := ordP m a) (n := 255) (k := 254) (by omega) (by unfold ordP; rw [show 254 + 1 = 255 from rfl, pow_255 h h0 ha]; rfl)
  refine ⟨j, by omega, by simpa [ordP] using h3, fun i hi => ?_, by unfold orderN; rw [h1]; rfl⟩
  simpa [ordP] using h4 i hi
theorem order_gen {m : Nat} (h : m ∈ fieldList) : orderN m (genOf m) = 255 := by
  obtain ⟨h1, h2⟩ := mem_bounds m h
  have hg := genOf_lt h
  have hg2 := (mask_ok m h).2.1
  obtain ⟨j, hj, hj1, _, ho⟩ := order_some h (a := genOf m) (by omega) hg
  rw [ho]
  by_cases hlt : j + 1 < 255
  · have := inj_of_surj (n := 255) (f := fun i => lpw m (genOf m) i - 1) (fun i _ => by have := lpw_lt (g := genOf m) h1 h2 i; show _ - 1 < 255; omega)
      (fun v hv => by
        obtain ⟨i, hi, he⟩ := gen_cover h (a := v + 1) (by omega) (by omega)
        exact ⟨i, hi, by show _ - 1 = v; omega⟩) (j + 1) 0 hlt (by omega) (by show lpw m (genOf m) (j + 1) - 1 = lpw m (genOf m) 0 - 1; rw [hj1]; rfl)
    omega
  · omega
theorem order_one {m : Nat} (h : m ∈ fieldList) : orderN m 1 = 1 := by
  obtain ⟨j, hj, hj1, hmin, ho⟩ := order_some h (a := 1) (by omega) (by omega)
  have h1 : lpw m 1 (0 + 1) = 1 := one_left h (by omega)
  rw [ho]
  cases j with
  | zero => rfl
  | succ j => exact absurd h1 (hmin 0 (by omega))
def genB (m : Nat) (x : Nat) : Bool := orderN m (x + 2) == 255
def leastGen (m : Nat) : Nat := (leastB (genB m) 254).getD 0 + 2
theorem leastGen_spec {m : Nat} (h : m ∈ fieldList) : ∃ j, j < 254 ∧ genB m j = true ∧ (∀ i, i < j → genB m i = false) ∧ leastGen m = j + 2 := by
  have hg := (mask_ok m h).2
  obtain ⟨j, h1, h2, h3, h4⟩ := least_of (p := genB m) (n := 254) (k := genOf m - 2) (by omega) (by unfold genB; rw [show genOf m - 2 + 2 = genOf m by omega, order_gen h]; rfl)
  exact ⟨j, by omega, h3, h4, by unfold leastGen; rw [h1]; rfl⟩
end Go.Proofs.Ytphfiekhpicpgaa.Plain
