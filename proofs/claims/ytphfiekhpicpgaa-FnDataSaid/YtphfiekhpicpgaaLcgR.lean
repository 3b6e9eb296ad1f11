/- Plain facts on the generator of the draws: a run of four steps at a time stays live for less than 2 ^ 32 rounds. No program, no condition. -/
import Derived.Test.YtphfiekhpicpgaaRows
import Derived.Test.YtphfiekhpicpgaaLcg
namespace Go.Proofs.Ytphfiekhpicpgaa.Lcg
theorem pow_odd : ∀ v : Nat, ∃ u o, u % 2 = 1 ∧ ∀ x, it (2 ^ v) x = (1 + 2 ^ (v + 2) * u) * x + 2 ^ v * (2 * o + 1)
  | 0 => ⟨1591034055961698251, 721347520444481703, rfl, fun x => by rw [show it (2 ^ 0) x = g x from rfl]; unfold g; omega⟩
  | v + 1 => by
    obtain ⟨u, o, hu, h⟩ := pow_odd v
    refine ⟨u + 2 ^ (v + 1) * (u * u), 2 * (2 ^ v * (u * o)) + (2 ^ v * u) + o, ?_, fun x => ?_⟩
    · rw [Nat.pow_succ, Nat.mul_comm (2 ^ v) 2, Nat.mul_assoc]
      omega
    rw [show 2 ^ (v + 1) = 2 ^ v + 2 ^ v by rw [Nat.pow_succ]; omega, it_add, h, h, mul_aff]
    have hp : ∀ k, 2 ^ (v + k) = 2 ^ v * 2 ^ k := fun k => Nat.pow_add 2 v k
    rw [show v + 1 + 2 = v + 3 by omega, hp 2, hp 3, show 2 ^ v + 2 ^ v = 2 ^ v * 2 by omega]
    obtain ⟨p, hpe⟩ : ∃ p, 2 ^ v = p := ⟨_, rfl⟩
    rw [hpe]
    have e1 : (1 + p * 2 ^ 2 * u) * (1 + p * 2 ^ 2 * u) = 1 + p * 2 ^ 3 * (u + p * 2 * (u * u)) := by grind
    have e2 : p * (2 * o + 1) * (1 + p * 2 ^ 2 * u + 1) = p * 2 * (2 * (2 * (p * (u * o)) + p * u + o) + 1) := by grind
    rw [e1, e2]
/-- By how much the part given out moves over 2 ^ 33 steps. -/
def shift (u c x : Nat) : Nat := 4 * u * x + c
/-- Four steps at a time, the shift comes to each rest that its first four bits allow. -/
theorem reach (u c : Nat) (hu : u % 2 = 1) : ∀ (v x t : Nat), shift u c x % 2 ^ 4 = t % 2 ^ 4 → ∃ d, d % 4 = 0 ∧ d < 2 ^ (v + 2) ∧ shift u c (it d x) % 2 ^ (v + 4) = t % 2 ^ (v + 4)
  | 0, x, t, h => ⟨0, rfl, by decide, h⟩
  | v + 1, x, t, h => by
    obtain ⟨d, h1, h2, h3⟩ := reach u c hu v x t h
    obtain ⟨y, hy⟩ : ∃ y, it d x = y := ⟨_, rfl⟩
    rw [hy] at h3
    have hA : 2 ^ (v + 1 + 2) = 2 ^ (v + 2) * 2 := Nat.pow_succ 2 (v + 2)
    have hB : 2 ^ (v + 2) = 2 ^ v * 4 := Nat.pow_add 2 v 2
    have hC : 2 ^ (v + 1 + 4) = 2 ^ (v + 4) * 2 := by rw [show v + 1 + 4 = (v + 4) + 1 by omega]; exact Nat.pow_succ 2 (v + 4)
    have hD : 2 ^ (v + 4) = 2 ^ (v + 2) * 4 := by rw [show v + 4 = (v + 2) + 2 by omega]; exact Nat.pow_add 2 (v + 2) 2
    have hE : 2 ^ (v + 2 + 2) = 2 ^ (v + 2) * 4 := Nat.pow_add 2 (v + 2) 2
    by_cases hq : shift u c y % 2 ^ (v + 1 + 4) = t % 2 ^ (v + 1 + 4)
    · exact ⟨d, h1, by omega, by rw [hy]; exact hq⟩
    · obtain ⟨u', o, hu', hf⟩ := pow_odd (v + 2)
      refine ⟨d + 2 ^ (v + 2), by omega, by omega, ?_⟩
      · rw [it_add, hy, hf]
        have e : shift u c ((1 + 2 ^ (v + 2 + 2) * u') * y + 2 ^ (v + 2) * (2 * o + 1)) = shift u c y + 2 ^ (v + 4) * (u * (2 * o + 1)) + 2 ^ (v + 1 + 4) * (2 * (u * (u' * y))) := by
          unfold shift
          rw [hC, hE]
          obtain ⟨p, hpe⟩ : ∃ p, 2 ^ (v + 2) = p := ⟨_, rfl⟩
          rw [hpe]
          grind
        rw [e, Nat.add_mul_mod_self_left]
        obtain ⟨w, hw⟩ : ∃ w, u * (2 * o + 1) = 2 * w + 1 := by
          refine ⟨u * o + u / 2, ?_⟩
          have : u = 2 * (u / 2) + 1 := by omega
          have e2 : u * (2 * o + 1) = 2 * (u * o) + u := by grind
          omega
        rw [hw]
        rw [hC] at hq ⊢
        obtain ⟨p, hpe⟩ : ∃ p, 2 ^ (v + 4) = p := ⟨_, rfl⟩
        have hp0 : 0 < p := by rw [← hpe]; exact Nat.pow_pos (by decide)
        rw [hpe] at hq h3 ⊢
        rw [show shift u c y + p * (2 * w + 1) = shift u c y + p + p * 2 * w by grind, Nat.add_mul_mod_self_left]
        obtain ⟨X, hX⟩ : ∃ X, shift u c y = X := ⟨_, rfl⟩
        rw [hX] at hq h3 ⊢
        rw [← Nat.div_add_mod X p, ← Nat.div_add_mod t p, h3] at hq ⊢
        obtain ⟨r, hr⟩ : ∃ r, t % p = r := ⟨_, rfl⟩
        have hrp : r < p := by rw [← hr]; exact Nat.mod_lt _ hp0
        rw [hr] at hq ⊢
        have key : ∀ k, (p * k + r) % (p * 2) = p * (k % 2) + r := fun k => by
          rw [show p * k + r = p * (k % 2) + r + p * 2 * (k / 2) by
            have : k = k % 2 + 2 * (k / 2) := by omega
            calc p * k + r = p * (k % 2 + 2 * (k / 2)) + r := by rw [← this]
              _ = _ := by grind, Nat.add_mul_mod_self_left]
          refine Nat.mod_eq_of_lt ?_
          rcases Nat.mod_two_eq_zero_or_one k with h | h <;> rw [h] <;> omega
        rw [key, key] at hq
        rw [show p * (X / p) + r + p = p * (X / p + 1) + r by grind, key, key]
        have hm : (X / p + 1) % 2 = (t / p) % 2 := by
          apply Classical.byContradiction
          intro hne
          refine hq ?_
          have : X / p % 2 = t / p % 2 := by omega
          rw [this]
        rw [hm]
theorem win_add (x E : Nat) : win (x + 8589934592 * E) = (win x + E) % 16777216 := by
  unfold win
  rw [Nat.add_mul_div_left _ _ (by decide), Nat.mod_add_mod]
theorem win_mod (x : Nat) : win (x % 2 ^ 64) = win x := by unfold win; omega
theorem move3 (W S T : Nat) (hw : W < 16777216) (hT : T < 16777216) (h : S % 16777216 = T) (h1 : W % 3 = 0) (h2 : T % 3 = 2) : (W + S) % 16777216 % 3 ≠ 0 := by
  have e : (W + S) % 16777216 = (W + T) % 16777216 := by omega
  rw [e]
  by_cases hc : W + T < 16777216
  · rw [Nat.mod_eq_of_lt hc]; omega
  · rw [show (W + T) % 16777216 = W + T - 16777216 by omega]; omega
/-- Every four steps a live state, and that for 2 ^ 33 + 2 ^ 22 steps: that cannot be. -/
theorem run_short (x : Nat) (h : ∀ k, 4 * k ≤ 8589934592 + 4194304 → win (it (4 * k) x) % 3 = 0) : False := by
  obtain ⟨u, o, hu, hf⟩ := pow_odd 33
  obtain ⟨c, hc⟩ : ∃ c, 2 * o + 1 = c := ⟨_, rfl⟩
  obtain ⟨V, hV⟩ : ∃ V, shift u c x % 16 = V := ⟨_, rfl⟩
  have hV16 : V < 16 := by rw [← hV]; exact Nat.mod_lt _ (by decide)
  obtain ⟨T, hT, hT3, hT16⟩ : ∃ T, T < 16777216 ∧ T % 3 = 2 ∧ T % 16 = V := ⟨V + 16 * ((2 + 2 * V) % 3), by omega, by omega, by omega⟩
  have h0 : shift u c x % 2 ^ 4 = T % 2 ^ 4 := by
    rw [show (2 : Nat) ^ 4 = 16 from rfl, hV, hT16]
  obtain ⟨d, h1, h2, h3⟩ := reach u c hu 20 x T h0
  rw [show (2 : Nat) ^ (20 + 4) = 16777216 by decide, Nat.mod_eq_of_lt hT] at h3
  rw [show (2 : Nat) ^ (20 + 2) = 4194304 by decide] at h2
  obtain ⟨k, hk⟩ : ∃ k, d = 4 * k := ⟨d / 4, by omega⟩
  have a1 := h k (by omega)
  have a2 := h (k + 2147483648) (by omega)
  rw [← hk] at a1
  have e1 : it (4 * (k + 2147483648)) x = it (2 ^ 33) (it d x) := by
    rw [← it_add, hk, show (2 : Nat) ^ 33 = 8589934592 by decide, show 4 * (k + 2147483648) = 4 * k + 8589934592 by omega]
  rw [e1, hf, hc] at a2
  obtain ⟨y, hy⟩ : ∃ y, it d x = y := ⟨_, rfl⟩
  rw [hy] at a1 a2 h3
  have e : (1 + 2 ^ (33 + 2) * u) * y + 2 ^ 33 * c = y + 8589934592 * shift u c y := by
    rw [show (2 : Nat) ^ (33 + 2) = 8589934592 * 4 by decide, show (2 : Nat) ^ 33 = 8589934592 by decide]
    unfold shift
    obtain ⟨p, hp⟩ : ∃ p, 8589934592 = p := ⟨_, rfl⟩
    rw [hp]
    grind
  rw [e, win_add] at a2
  exact move3 _ _ _ (Nat.mod_lt _ (by decide)) hT h3 a1 hT3 a2
/-- How many rounds of four steps are live from x on, as far as n. -/
def pure4 : Nat → Nat → Nat
  | 0, _ => 0
  | n + 1, x => if win (f x) % 3 = 0 then pure4 n (itf 4 x) + 1 else 0
theorem pure4_succ (n x : Nat) : pure4 (n + 1) x = if win (f x) % 3 = 0 then pure4 n (itf 4 x) + 1 else 0 := rfl
theorem pure4_le (n : Nat) : ∀ x, pure4 n x ≤ n := by
  induction n with
  | zero => intro x; exact Nat.le_refl _
  | succ n ih =>
    intro x
    rw [pure4_succ]
    have := ih (itf 4 x)
    split <;> omega
theorem pure4_all (n : Nat) : ∀ x, pure4 n x = n → ∀ k, k < n → win (f (itf (4 * k) x)) % 3 = 0 := by
  induction n with
  | zero => intro x _ k hk; exact absurd hk (Nat.not_lt_zero _)
  | succ n ih =>
    intro x h k hk
    rw [pure4_succ] at h
    have hl : win (f x) % 3 = 0 := by
      apply Classical.byContradiction
      intro hn
      rw [if_neg hn] at h
      omega
    rw [if_pos hl] at h
    cases k with
    | zero => exact hl
    | succ k =>
      have := ih (itf 4 x) (by omega) k (by omega)
      rw [show 4 * (k + 1) = 4 + 4 * k by omega, itf_add]
      exact this
theorem pure4_stable (n : Nat) : ∀ x, pure4 n x < n → pure4 (n + 1) x = pure4 n x := by
  induction n with
  | zero => intro x h; exact absurd h (Nat.not_lt_zero _)
  | succ n ih =>
    intro x h
    rw [pure4_succ (n + 1) x, pure4_succ n x]
    rw [pure4_succ n x] at h
    by_cases hl : win (f x) % 3 = 0
    · rw [if_pos hl] at h ⊢
      rw [if_pos hl, ih (itf 4 x) (by omega)]
    · rw [if_neg hl, if_neg hl]
theorem f_g (x : Nat) : f x = g x % 2 ^ 64 := rfl
theorem win_head (n x : Nat) (hx : x < 2 ^ 64) : win (f (itf n x)) = win (it n (g x)) := by
  have e : f (itf n x) = itf (n + 1) x := by rw [itf_add]; unfold itf; rw [iter_succ, iter_zero]
  rw [e, itf_it _ _ hx, win_mod, Nat.add_comm n 1, it_add]
  rfl
theorem pure4_short {n : Nat} (hn : 4 * n > 8589934592 + 4194304 + 4) {x : Nat} (hx : x < 2 ^ 64) : pure4 n x < n := by
  have h1 := pure4_le n x
  by_cases h : pure4 n x = n
  · exact (run_short (g x) fun k hk => by
      rw [← win_head (4 * k) x hx]
      exact pure4_all n x h k (by omega)).elim
  · omega
/-- What the text may grow by before it is empty or the rounds end. -/
theorem exists_run : ∃ run : Nat → Nat, (∀ x, x < 2 ^ 64 → run x ≤ 4000000000) ∧ ∀ x, x < 2 ^ 64 → win (f x) % 3 = 0 → run x = run (itf 4 x) + 1 := by
  obtain ⟨N, hN⟩ : ∃ N, N = 3000000000 := ⟨_, rfl⟩
  refine ⟨pure4 (N + 1), fun x hx => ?_, fun x hx hl => ?_⟩
  · have := pure4_le (N + 1) x
    omega
  · rw [pure4_succ N x, if_pos hl, pure4_stable N (itf 4 x) (pure4_short (by omega) (itf_lt 4 x hx))]
end Go.Proofs.Ytphfiekhpicpgaa.Lcg
