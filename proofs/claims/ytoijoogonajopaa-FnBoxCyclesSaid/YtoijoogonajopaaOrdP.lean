/- Plain facts: the least common multiple of numbers whose sum is at most 256 lies below 2^63. No program, no condition. -/
import Derived.Test.YtoijoogonajopaaCycP
namespace Go.Proofs.Ytoijoogonajopaa
def od : Nat → Nat → Nat
  | 0, n => n
  | f + 1, n => if n % 2 = 0 then od f (n / 2) else n
def vl : Nat → Nat → Nat
  | 0, _ => 0
  | f + 1, n => if n % 2 = 0 then vl f (n / 2) + 1 else 0
theorem od_vl : ∀ (f n : Nat), n = 2 ^ vl f n * od f n
  | 0, n => by unfold od vl; simp
  | f + 1, n => by
    unfold od vl
    by_cases h : n % 2 = 0
    · rw [if_pos h, if_pos h, Nat.pow_succ, Nat.mul_comm (2 ^ vl f (n / 2)) 2, Nat.mul_assoc, ← od_vl f (n / 2)]
      omega
    · rw [if_neg h, if_neg h]; simp
theorem od_odd : ∀ (f n : Nat), 0 < n → n < 2 ^ f → od f n % 2 = 1
  | 0, n, h1, h2 => by simp at h2; omega
  | f + 1, n, h1, h2 => by
    unfold od
    by_cases h : n % 2 = 0
    · rw [if_pos h]
      exact od_odd f (n / 2) (by omega) (by rw [Nat.pow_succ] at h2; omega)
    · rw [if_neg h]; omega
theorem od_le (f n : Nat) : od f n ≤ n := by
  have e := od_vl f n
  have hp : 0 < 2 ^ vl f n := Nat.pow_pos (by omega)
  calc od f n = 1 * od f n := (Nat.one_mul _).symm
    _ ≤ 2 ^ vl f n * od f n := Nat.mul_le_mul_right _ hp
    _ = n := e.symm
/-- sum and product of the odd numbers 2j + 1, j below n, that f chooses -/
def DS (f : Nat → Bool) : Nat → Nat
  | 0 => 0
  | n + 1 => DS f n + (if f n = true then 2 * n + 1 else 0)
def PR (f : Nat → Bool) : Nat → Nat
  | 0 => 1
  | n + 1 => PR f n * (if f n = true then 2 * n + 1 else 1)
theorem DS_far (f : Nat → Bool) (j : Nat) : ∀ n, n ≤ j → DS (upd f j true) n = DS f n
  | 0, _ => rfl
  | n + 1, h => by unfold DS; rw [DS_far f j n (by omega), upd_other _ _ (show n ≠ j by omega)]
theorem DS_upd (f : Nat → Bool) (j : Nat) : ∀ n, DS (upd f j true) n ≤ DS f n + (2 * j + 1)
  | 0 => by unfold DS; omega
  | n + 1 => by
    by_cases e : n = j
    · subst e
      unfold DS
      rw [DS_far f n n (Nat.le_refl _), upd_same, if_pos rfl]
      split <;> omega
    · have := DS_upd f j n
      unfold DS
      rw [upd_other _ _ e]
      omega
theorem PR_dvd (f : Nat → Bool) (j : Nat) : ∀ n, PR f n ∣ PR (upd f j true) n
  | 0 => Nat.dvd_refl _
  | n + 1 => by
    have ih := PR_dvd f j n
    unfold PR
    by_cases e : n = j
    · subst e
      rw [upd_same, if_pos rfl]
      by_cases h : f n = true
      · rw [if_pos h]; exact Nat.mul_dvd_mul_right ih _
      · rw [if_neg h, Nat.mul_one]; exact Nat.dvd_trans ih (Nat.dvd_mul_right _ _)
    · rw [upd_other _ _ e]; exact Nat.mul_dvd_mul_right ih _
theorem PR_mem (f : Nat → Bool) {j : Nat} (h : f j = true) : ∀ n, j < n → (2 * j + 1) ∣ PR f n
  | n + 1, hj => by
    unfold PR
    by_cases e : n = j
    · subst e; rw [if_pos h]; exact Nat.dvd_mul_left _ _
    · exact Nat.dvd_trans (PR_mem f h n (by omega)) (Nat.dvd_mul_right _ _)
/-- the greatest product at a sum of at most s, in rows -/
def mpRow : Nat → List Nat
  | 0 => List.replicate 257 1
  | n + 1 => List.zipWith max (mpRow n) (List.replicate (2 * n + 1) 0 ++ (mpRow n).map fun x => x * (2 * n + 1))
theorem mpRow_succ (n : Nat) : mpRow (n + 1) = List.zipWith max (mpRow n) (List.replicate (2 * n + 1) 0 ++ (mpRow n).map fun x => x * (2 * n + 1)) := rfl
theorem mpRow_len : ∀ n, (mpRow n).length = 257
  | 0 => List.length_replicate
  | n + 1 => by
    have := mpRow_len n
    rw [mpRow_succ, List.length_zipWith, List.length_append, List.length_replicate, List.length_map, this]
    omega
theorem PR_le (f : Nat → Bool) : ∀ (n s : Nat), s ≤ 256 → DS f n ≤ s → PR f n ≤ (mpRow n).getD s 0
  | 0, s, hs, _ => by
    show 1 ≤ (List.replicate 257 1).getD s 0
    rw [List.getD_eq_getElem?_getD, List.getElem?_replicate, if_pos (by omega)]
    exact Nat.le_refl _
  | n + 1, s, hs, hd => by
    have hl := mpRow_len n
    have hrow : (mpRow (n + 1)).getD s 0 = max ((mpRow n).getD s 0) ((List.replicate (2 * n + 1) 0 ++ (mpRow n).map fun x => x * (2 * n + 1)).getD s 0) := by
      rw [mpRow_succ, List.getD_eq_getElem?_getD, List.getElem?_zipWith, List.getD_eq_getElem?_getD, List.getD_eq_getElem?_getD]
      have h1 : s < (mpRow n).length := by omega
      have h2 : s < (List.replicate (2 * n + 1) 0 ++ (mpRow n).map fun x => x * (2 * n + 1)).length := by rw [List.length_append, List.length_replicate, List.length_map]; omega
      rw [List.getElem?_eq_getElem h1, List.getElem?_eq_getElem h2]
      rfl
    rw [hrow]
    unfold DS at hd
    unfold PR
    by_cases h : f n = true
    · rw [if_pos h] at hd ⊢
      have ih := PR_le f n (s - (2 * n + 1)) (by omega) (by omega)
      refine Nat.le_trans ?_ (Nat.le_max_right _ _)
      rw [List.getD_eq_getElem?_getD, List.getElem?_append_right (by rw [List.length_replicate]; omega), List.length_replicate, List.getElem?_map]
      rw [List.getD_eq_getElem?_getD] at ih
      have h1 : s - (2 * n + 1) < (mpRow n).length := by omega
      rw [List.getElem?_eq_getElem h1] at ih ⊢
      exact Nat.mul_le_mul_right _ ih
    · rw [if_neg h] at hd ⊢
      rw [Nat.mul_one]
      exact Nat.le_trans (PR_le f n s hs (by omega)) (Nat.le_max_left _ _)
theorem mp_small : ∀ A, A < 9 → 2 ^ A * (mpRow 128).getD (257 - 2 ^ A) 0 < 9223372036854775808 := by decide +kernel
def ordTo (z : Nat → Nat) : Nat → Nat
  | 0 => 1
  | k + 1 => Nat.lcm (ordTo z k) (z k)
def sumZ (z : Nat → Nat) : Nat → Nat
  | 0 => 0
  | k + 1 => sumZ z k + z k
def fOf (z : Nat → Nat) : Nat → Nat → Bool
  | 0 => fun _ => false
  | k + 1 => upd (fOf z k) (od 9 (z k) / 2) true
def aOf (z : Nat → Nat) : Nat → Nat
  | 0 => 0
  | k + 1 => max (aOf z k) (vl 9 (z k))
theorem DS_false : ∀ n, DS (fun _ => false) n = 0
  | 0 => rfl
  | n + 1 => by unfold DS; rw [DS_false n]; rfl
theorem od_half {n : Nat} (h1 : 0 < n) (h2 : n ≤ 256) : 2 * (od 9 n / 2) + 1 = od 9 n ∧ od 9 n / 2 < 128 := by
  have ho := od_odd 9 n h1 (by omega)
  have hl := od_le 9 n
  omega
theorem sum_bound {z : Nat → Nat} : ∀ k, (∀ i, i < k → 1 ≤ z i ∧ z i ≤ 256) → DS (fOf z k) 128 + 2 ^ aOf z k ≤ sumZ z k + 1
  | 0, _ => by show DS (fun _ => false) 128 + 2 ^ 0 ≤ 0 + 1; rw [DS_false]; omega
  | k + 1, h => by
    have ih := sum_bound k fun i hi => h i (by omega)
    have hz := h k (by omega)
    have ho := od_half hz.1 hz.2
    have hd := DS_upd (fOf z k) (od 9 (z k) / 2) 128
    have he := od_vl 9 (z k)
    show DS (upd (fOf z k) (od 9 (z k) / 2) true) 128 + 2 ^ max (aOf z k) (vl 9 (z k)) ≤ sumZ z k + z k + 1
    have hpv : 0 < 2 ^ vl 9 (z k) := Nat.pow_pos (by omega)
    have hpa : 0 < 2 ^ aOf z k := Nat.pow_pos (by omega)
    have hle := od_le 9 (z k)
    by_cases hc : vl 9 (z k) ≤ aOf z k
    · rw [Nat.max_eq_left hc]
      omega
    · rw [Nat.max_eq_right (by omega)]
      have hprod : 2 ^ vl 9 (z k) + od 9 (z k) ≤ z k + 1 := by
        have h1 : 1 ≤ od 9 (z k) := by omega
        generalize 2 ^ vl 9 (z k) = p at *
        generalize od 9 (z k) = o at *
        rw [he]
        obtain ⟨p', rfl⟩ : ∃ p', p = p' + 1 := ⟨p - 1, by omega⟩
        obtain ⟨o', rfl⟩ : ∃ o', o = o' + 1 := ⟨o - 1, by omega⟩
        rw [Nat.add_mul, Nat.mul_add]
        omega
      omega
theorem ord_dvd {z : Nat → Nat} : ∀ k, (∀ i, i < k → 1 ≤ z i ∧ z i ≤ 256) → ordTo z k ∣ 2 ^ aOf z k * PR (fOf z k) 128
  | 0, _ => Nat.one_dvd _
  | k + 1, h => by
    have ih := ord_dvd k fun i hi => h i (by omega)
    have hz := h k (by omega)
    have ho := od_half hz.1 hz.2
    have he := od_vl 9 (z k)
    show Nat.lcm (ordTo z k) (z k) ∣ 2 ^ max (aOf z k) (vl 9 (z k)) * PR (upd (fOf z k) (od 9 (z k) / 2) true) 128
    refine Nat.lcm_dvd (Nat.dvd_trans ih (Nat.mul_dvd_mul (Nat.pow_dvd_pow 2 (Nat.le_max_left _ _)) (PR_dvd _ _ _))) ?_
    have hm := PR_mem (upd (fOf z k) (od 9 (z k) / 2) true) (upd_same _ _ _) 128 ho.2
    rw [ho.1] at hm
    have := Nat.mul_dvd_mul (Nat.pow_dvd_pow 2 (Nat.le_max_right (aOf z k) (vl 9 (z k)))) hm
    rwa [← he] at this
theorem PR_pos (f : Nat → Bool) : ∀ n, 0 < PR f n
  | 0 => Nat.one_pos
  | n + 1 => by
    unfold PR
    refine Nat.mul_pos (PR_pos f n) ?_
    split <;> omega
theorem ord_bound {z : Nat → Nat} {k : Nat} (h : ∀ i, i < k → 1 ≤ z i ∧ z i ≤ 256) (hs : sumZ z k ≤ 256) : ordTo z k < 9223372036854775808 := by
  have h1 := sum_bound k h
  have h2 := ord_dvd k h
  have hA : aOf z k < 9 := by
    apply Classical.byContradiction
    intro hn
    have : 2 ^ 9 ≤ 2 ^ aOf z k := Nat.pow_le_pow_right (by omega) (by omega)
    omega
  have hpa : 0 < 2 ^ aOf z k := Nat.pow_pos (by omega)
  have h3 := PR_le (fOf z k) 128 (257 - 2 ^ aOf z k) (by omega) (by omega)
  refine Nat.lt_of_le_of_lt (Nat.le_trans (Nat.le_of_dvd (Nat.mul_pos hpa (PR_pos _ _)) h2) (Nat.mul_le_mul_left _ h3)) (mp_small _ hA)
theorem ord_pos {z : Nat → Nat} : ∀ k, (∀ i, i < k → 1 ≤ z i) → 0 < ordTo z k
  | 0, _ => Nat.one_pos
  | k + 1, h => Nat.lcm_pos (ord_pos k fun i hi => h i (by omega)) (h k (by omega))
end Go.Proofs.Ytoijoogonajopaa
