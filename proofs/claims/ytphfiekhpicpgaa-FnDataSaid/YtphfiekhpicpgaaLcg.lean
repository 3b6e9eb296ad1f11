/- Plain facts on the generator of the draws: no state comes back before 2 ^ 64 steps, so no loop of draws goes on for ever. No program, no condition. -/
import Derived.Test.YtphfiekhpicpgaaRows
namespace Go.Proofs.Ytphfiekhpicpgaa.Lcg
theorem pigeon : ∀ (N : Nat) (f : Nat → Nat), (∀ i, i ≤ N → f i < N) → ∃ i j, i < j ∧ j ≤ N ∧ f i = f j
  | 0, f, h => absurd (h 0 (Nat.le_refl _)) (Nat.not_lt_zero _)
  | N + 1, f, h => by
    by_cases hv : ∃ i, i ≤ N ∧ f i = f (N + 1)
    · obtain ⟨i, hi, e⟩ := hv
      exact ⟨i, N + 1, by omega, Nat.le_refl _, e⟩
    · have hne : ∀ i, i ≤ N → f i ≠ f (N + 1) := fun i hi e => hv ⟨i, hi, e⟩
      have hN := h (N + 1) (Nat.le_refl _)
      obtain ⟨i, j, hij, hj, e⟩ := pigeon N (fun i => if f (N + 1) < f i then f i - 1 else f i) fun i hi => by
        have h1 := h i (by omega)
        have h2 := hne i hi
        show (if f (N + 1) < f i then f i - 1 else f i) < N
        split <;> omega
      have h1 := hne i (by omega)
      have h2 := hne j hj
      have e : (if f (N + 1) < f i then f i - 1 else f i) = (if f (N + 1) < f j then f j - 1 else f j) := e
      refine ⟨i, j, hij, by omega, ?_⟩
      split at e <;> split at e <;> omega
/-- One step, not reduced. -/
def g (x : Nat) : Nat := 6364136223846793005 * x + 1442695040888963407
def iter (F : Nat → Nat) : Nat → Nat → Nat
  | 0, x => x
  | n + 1, x => iter F n (F x)
theorem iter_succ (F : Nat → Nat) (n x : Nat) : iter F (n + 1) x = iter F n (F x) := rfl
theorem iter_zero (F : Nat → Nat) (x : Nat) : iter F 0 x = x := rfl
theorem iter_add (F : Nat → Nat) (n : Nat) : ∀ m x, iter F (m + n) x = iter F n (iter F m x)
  | 0, x => by rw [Nat.zero_add, iter_zero]
  | m + 1, x => by rw [show m + 1 + n = (m + n) + 1 by omega, iter_succ, iter_succ, iter_add F n m]
theorem iter_mod (F G : Nat → Nat) (M : Nat) (h : ∀ x y, x % M = y % M → F x % M = G y % M) : ∀ n x y, x % M = y % M → iter F n x % M = iter G n y % M
  | 0, x, y, e => e
  | n + 1, x, y, e => by rw [iter_succ, iter_succ]; exact iter_mod F G M h n _ _ (h x y e)
theorem iter_lt (F : Nat → Nat) (M : Nat) (h : ∀ x, F x < M) : ∀ n x, x < M → iter F n x < M
  | 0, x, e => e
  | n + 1, x, _ => by rw [iter_succ]; exact iter_lt F M h n _ (h x)
theorem iter_par (F : Nat → Nat) (h : ∀ x, F x % 2 = (x + 1) % 2) : ∀ n x, iter F n x % 2 = (x + n) % 2
  | 0, x => rfl
  | n + 1, x => by
    rw [iter_succ, iter_par F h n]
    have := h x
    omega
def it (n x : Nat) : Nat := iter g n x
theorem it_add (n m x : Nat) : it (m + n) x = it n (it m x) := iter_add g n m x
theorem mul_aff (A C x : Nat) : A * (A * x + C) + C = A * A * x + C * (A + 1) := by
  rw [Nat.mul_add, Nat.mul_assoc, Nat.mul_add C, Nat.mul_one, Nat.mul_comm C A]; omega
theorem pow_form : ∀ v : Nat, ∃ u o, ∀ x, it (2 ^ v) x = (1 + 2 ^ (v + 2) * u) * x + 2 ^ v * (2 * o + 1)
  | 0 => ⟨1591034055961698251, 721347520444481703, fun x => by rw [show it (2 ^ 0) x = g x from rfl]; unfold g; omega⟩
  | v + 1 => by
    obtain ⟨u, o, h⟩ := pow_form v
    refine ⟨u + 2 ^ (v + 1) * (u * u), 2 * (2 ^ v * (u * o)) + (2 ^ v * u) + o, fun x => ?_⟩
    rw [show 2 ^ (v + 1) = 2 ^ v + 2 ^ v by rw [Nat.pow_succ]; omega, it_add, h, h, mul_aff]
    have hp : ∀ k, 2 ^ (v + k) = 2 ^ v * 2 ^ k := fun k => Nat.pow_add 2 v k
    rw [show v + 1 + 2 = v + 3 by omega, hp 2, hp 3, show 2 ^ v + 2 ^ v = 2 ^ v * 2 by omega]
    obtain ⟨p, hpe⟩ : ∃ p, 2 ^ v = p := ⟨_, rfl⟩
    rw [hpe]
    have e1 : (1 + p * 2 ^ 2 * u) * (1 + p * 2 ^ 2 * u) = 1 + p * 2 ^ 3 * (u + p * 2 * (u * u)) := by grind
    have e2 : p * (2 * o + 1) * (1 + p * 2 ^ 2 * u + 1) = p * 2 * (2 * (2 * (p * (u * o)) + p * u + o) + 1) := by grind
    rw [e1, e2]
theorem odd_form (d : Nat) : 0 < d → ∃ v m, d = 2 ^ v * (2 * m + 1) := by
  induction d using Nat.strongRecOn with
  | ind d ih =>
    intro hd
    by_cases h : d % 2 = 1
    · exact ⟨0, d / 2, by omega⟩
    · obtain ⟨v, m, e⟩ := ih (d / 2) (by omega) (by omega)
      refine ⟨v + 1, m, ?_⟩
      rw [Nat.pow_succ, Nat.mul_right_comm, ← e]
      omega
theorem it_mod (v : Nat) : ∀ (m x : Nat), it (2 ^ v * m) x % 2 ^ (v + 1) = (x + 2 ^ v * m) % 2 ^ (v + 1)
  | 0, x => by rw [Nat.mul_zero]; rfl
  | m + 1, x => by
    obtain ⟨u, o, h⟩ := pow_form v
    rw [Nat.mul_succ, it_add, h, Nat.add_comm (2 ^ v * m) (2 ^ v), ← Nat.add_assoc]
    have ih := it_mod v m x
    obtain ⟨y, hy⟩ : ∃ y, it (2 ^ v * m) x = y := ⟨_, rfl⟩
    rw [hy] at ih ⊢
    rw [show (1 + 2 ^ (v + 2) * u) * y + 2 ^ v * (2 * o + 1) = (y + 2 ^ v) + 2 ^ (v + 1) * (2 * u * y + o) by
      rw [Nat.pow_succ, Nat.pow_succ]
      obtain ⟨p, hpe⟩ : ∃ p, 2 ^ v = p := ⟨_, rfl⟩
      rw [hpe]; grind, Nat.add_mul_mod_self_left]
    rw [Nat.add_mod, ih, ← Nat.add_mod]
    congr 1
    omega
/-- One step of the generator. -/
def f (x : Nat) : Nat := (6364136223846793005 * x + 1442695040888963407) % 2 ^ 64
theorem f_lt (x : Nat) : f x < 2 ^ 64 := Nat.mod_lt _ (Nat.pow_pos (by decide))
def itf (n x : Nat) : Nat := iter f n x
theorem itf_add (n m x : Nat) : itf (m + n) x = itf n (itf m x) := iter_add f n m x
theorem itf_lt (n x : Nat) (hx : x < 2 ^ 64) : itf n x < 2 ^ 64 := iter_lt f (2 ^ 64) f_lt n x hx
theorem g_mod (x y : Nat) (h : x % 2 ^ 64 = y % 2 ^ 64) : f x % 2 ^ 64 = g y % 2 ^ 64 := by
  unfold f g
  rw [Nat.mod_mod, Nat.add_mod, Nat.mul_mod, h, ← Nat.mul_mod, ← Nat.add_mod]
theorem itf_it (n x : Nat) (h : x < 2 ^ 64) : itf n x = it n x % 2 ^ 64 := by
  have := iter_mod f g (2 ^ 64) g_mod n x x rfl
  rw [Nat.mod_eq_of_lt (iter_lt f (2 ^ 64) f_lt n x h)] at this
  exact this
/-- No number comes back before 2 ^ 64 steps. -/
theorem no_return {x d : Nat} (hx : x < 2 ^ 64) (hd : 0 < d) (hd2 : d < 2 ^ 64) : itf d x ≠ x := fun e => by
  obtain ⟨v, m, hvm⟩ := odd_form d hd
  have hv : v < 64 := by
    apply Classical.byContradiction
    intro hv
    have h1 : 2 ^ 64 ≤ 2 ^ v := Nat.pow_le_pow_right (by decide) (by omega)
    have h2 : 2 ^ v * 1 ≤ 2 ^ v * (2 * m + 1) := Nat.mul_le_mul_left _ (by omega)
    omega
  rw [itf_it d x hx, hvm] at e
  have h1 := it_mod v (2 * m + 1) x
  have hdv : 2 ^ (v + 1) ∣ 2 ^ 64 := Nat.pow_dvd_pow 2 (by omega)
  have h2 : it (2 ^ v * (2 * m + 1)) x % 2 ^ (v + 1) = x % 2 ^ (v + 1) := by
    rw [← Nat.mod_mod_of_dvd _ hdv, e]
  rw [h2] at h1
  have e3 : x + 2 ^ v * (2 * m + 1) = x + 2 ^ v + 2 ^ (v + 1) * m := by
    rw [Nat.pow_succ]
    obtain ⟨p, hpe⟩ : ∃ p, 2 ^ v = p := ⟨_, rfl⟩
    rw [hpe]; grind
  rw [e3, Nat.add_mul_mod_self_left, Nat.pow_succ] at h1
  obtain ⟨p, hpe⟩ : ∃ p, 2 ^ v = p := ⟨_, rfl⟩
  have hp0 : 0 < p := by rw [← hpe]; exact Nat.pow_pos (by decide)
  rw [hpe] at h1
  have h3 := Nat.sub_mod_eq_zero_of_mod_eq h1.symm
  rw [Nat.add_sub_cancel_left, Nat.mod_eq_of_lt (by omega)] at h3
  omega
theorem f_par (x : Nat) : f x % 2 = (x + 1) % 2 := by unfold f; omega
theorem itf_par (n x : Nat) : itf n x % 2 = (x + n) % 2 := iter_par f f_par n x
/-- The part of the state that is given out. -/
def win (x : Nat) : Nat := x / 8589934592 % 16777216
/-- A number below 2 ^ 39 * 5592406 for each state of one parity whose part given out is divisible by 3. -/
def code (x : Nat) : Nat := x % 8589934592 / 2 + 4294967296 * (win x / 3 + 5592406 * (x / 144115188075855872))
theorem code_lt {x : Nat} (hx : x < 2 ^ 64) : code x < 549755813888 * 5592406 := by
  unfold code win
  omega
theorem code_inj {x y : Nat} (hp : x % 2 = y % 2) (h1 : win x % 3 = 0) (h2 : win y % 3 = 0) (e : code x = code y) : x = y := by
  unfold code at e
  have a1 : win x < 16777216 := Nat.mod_lt _ (by decide)
  have a2 : win y < 16777216 := Nat.mod_lt _ (by decide)
  have e1 : x % 8589934592 / 2 = y % 8589934592 / 2 := by omega
  have e2 : win x / 3 = win y / 3 := by omega
  have e3 : x / 144115188075855872 = y / 144115188075855872 := by omega
  have e4 : win x = win y := by omega
  unfold win at e4
  omega
/-- A way through the states: two or four steps at a time. -/
structure Way (s : Nat → Nat) (n : Nat) : Prop where
  start : s 0 < 2 ^ 64
  step : ∀ k, k < n → s (k + 1) = itf 2 (s k) ∨ s (k + 1) = itf 4 (s k)
  live : ∀ k, k ≤ n → win (f (s k)) % 3 = 0
theorem way_at {s : Nat → Nat} {n : Nat} (h : Way s n) : ∀ j i, i + j ≤ n → ∃ d, 2 * j ≤ d ∧ d ≤ 4 * j ∧ d % 2 = 0 ∧ s (i + j) = itf d (s i)
  | 0, i, _ => ⟨0, by omega, by omega, rfl, rfl⟩
  | j + 1, i, hn => by
    obtain ⟨d, h1, h2, h3, e⟩ := way_at h j i (by omega)
    rcases h.step (i + j) (by omega) with h4 | h4
    · exact ⟨d + 2, by omega, by omega, by omega, by rw [itf_add, ← e]; exact h4⟩
    · exact ⟨d + 4, by omega, by omega, by omega, by rw [itf_add, ← e]; exact h4⟩
theorem way_short {N : Nat} (hN : N = 549755813888 * 5592406) {s : Nat → Nat} (h : Way s N) : False := by
  obtain ⟨i, j, hij, hj, e⟩ := pigeon N (fun k => code (f (s k))) fun k _ => by
    rw [hN]
    exact code_lt (f_lt _)
  have hpar : ∀ k, k ≤ N → f (s k) % 2 = (s 0 + 1) % 2 := fun k hk => by
    obtain ⟨d, _, _, h3, e⟩ := way_at h k 0 (by omega)
    rw [Nat.zero_add] at e
    rw [f_par, e]
    have := itf_par d (s 0)
    omega
  have e2 : f (s i) = f (s j) := code_inj (by rw [hpar i (by omega), hpar j hj]) (h.live i (by omega)) (h.live j hj) e
  obtain ⟨d, h1, h2, _, e3⟩ := way_at h (j - i) i (by omega)
  rw [show i + (j - i) = j by omega] at e3
  have e4 : itf d (f (s i)) = f (s i) := by
    have a : itf d (f (s i)) = itf (1 + d) (s i) := by rw [itf_add]; unfold itf; rw [iter_succ, iter_zero]
    have b : f (itf d (s i)) = itf (d + 1) (s i) := by rw [itf_add]; unfold itf; rw [iter_succ, iter_zero]
    rw [a, Nat.add_comm, ← b, ← e3, ← e2]
  exact no_return (f_lt _) (by omega) (by omega) e4
/-- The longest way of live states from x on, as far as n. -/
def far : Nat → Nat → Nat
  | 0, _ => 0
  | n + 1, x => if win (f x) % 3 = 0 then max (far n (itf 2 x)) (far n (itf 4 x)) + 1 else 0
theorem far_succ (n x : Nat) : far (n + 1) x = if win (f x) % 3 = 0 then max (far n (itf 2 x)) (far n (itf 4 x)) + 1 else 0 := rfl
theorem far_le : ∀ n x, far n x ≤ n
  | 0, _ => Nat.le_refl _
  | n + 1, x => by
    have h1 := far_le n (itf 2 x)
    have h2 := far_le n (itf 4 x)
    rw [far_succ]
    split <;> omega
def consW (x : Nat) (s : Nat → Nat) : Nat → Nat
  | 0 => x
  | k + 1 => s k
theorem consW_zero (x : Nat) (s : Nat → Nat) : consW x s 0 = x := rfl
theorem consW_succ (x : Nat) (s : Nat → Nat) (k : Nat) : consW x s (k + 1) = s k := rfl
theorem way_cons {s : Nat → Nat} {n x : Nat} (h : Way s n) (hx : x < 2 ^ 64) (hl : win (f x) % 3 = 0) (hy : s 0 = itf 2 x ∨ s 0 = itf 4 x) : Way (consW x s) (n + 1) := by
  refine ⟨?_, fun k hk => ?_, fun k hk => ?_⟩
  · rw [consW_zero]; exact hx
  · cases k with
    | zero => rw [consW_succ, consW_zero]; exact hy
    | succ k => rw [consW_succ, consW_succ]; exact h.step k (by omega)
  · cases k with
    | zero => rw [consW_zero]; exact hl
    | succ k => rw [consW_succ]; exact h.live k (by omega)
theorem far_way (n : Nat) : ∀ x, x < 2 ^ 64 → far (n + 1) x = n + 1 → ∃ s, Way s n ∧ s 0 = x := by
  induction n with
  | zero =>
    intro x hx h
    rw [far_succ] at h
    refine ⟨fun _ => x, ⟨hx, fun k hk => absurd hk (Nat.not_lt_zero k), fun k hk => ?_⟩, rfl⟩
    apply Classical.byContradiction
    intro hn
    rw [if_neg hn] at h
    omega
  | succ n ih =>
    intro x hx h
    rw [far_succ] at h
    have hl : win (f x) % 3 = 0 := by
      apply Classical.byContradiction
      intro hn
      rw [if_neg hn] at h
      omega
    rw [if_pos hl] at h
    have h1 := far_le (n + 1) (itf 2 x)
    have h2 := far_le (n + 1) (itf 4 x)
    by_cases h3 : far (n + 1) (itf 2 x) = n + 1
    · obtain ⟨s, hs, h0⟩ := ih _ (itf_lt 2 x hx) h3
      exact ⟨consW x s, way_cons hs hx hl (.inl h0), consW_zero x s⟩
    · obtain ⟨s, hs, h0⟩ := ih _ (itf_lt 4 x hx) (by omega)
      exact ⟨consW x s, way_cons hs hx hl (.inr h0), consW_zero x s⟩
theorem far_stable (n : Nat) : ∀ x, far n x < n → far (n + 1) x = far n x := by
  induction n with
  | zero => intro x h; exact absurd h (Nat.not_lt_zero _)
  | succ n ih =>
    intro x h
    rw [far_succ (n + 1) x, far_succ n x]
    rw [far_succ n x] at h
    by_cases hl : win (f x) % 3 = 0
    · rw [if_pos hl] at h ⊢
      rw [if_pos hl, ih (itf 2 x) (by omega), ih (itf 4 x) (by omega)]
    · rw [if_neg hl, if_neg hl]
theorem bound_of {N : Nat} (hN : ∀ s, Way s N → False) {x : Nat} (hx : x < 2 ^ 64) : far (N + 1) x < N + 1 := by
  have h1 := far_le (N + 1) x
  by_cases h : far (N + 1) x = N + 1
  · obtain ⟨s, hs, _⟩ := far_way N x hx h
    exact absurd hs fun h => hN s h
  · omega
theorem step_of {N : Nat} (hN : ∀ s, Way s N → False) {x y : Nat} (hx : x < 2 ^ 64) (hl : win (f x) % 3 = 0) (hy : y = itf 2 x ∨ y = itf 4 x) : far (N + 2) y < far (N + 2) x := by
  have e : far (N + 2) x = max (far (N + 1) (itf 2 x)) (far (N + 1) (itf 4 x)) + 1 := by
    rw [show N + 2 = (N + 1) + 1 from rfl, far_succ (N + 1) x, if_pos hl]
  rw [e]
  rcases hy with h | h
  · have := far_stable (N + 1) (itf 2 x) (bound_of hN (itf_lt 2 _ hx))
    rw [h, this]
    omega
  · have := far_stable (N + 1) (itf 4 x) (bound_of hN (itf_lt 4 _ hx))
    rw [h, this]
    omega
theorem exists_bound : ∃ N, N < 4000000000000000000 ∧ ∀ s, Way s N → False := by
  obtain ⟨N, hN⟩ : ∃ N, N = 549755813888 * 5592406 := ⟨_, rfl⟩
  exact ⟨N, by omega, fun s h => way_short hN h⟩
/-- A measure of what is left: it falls with each round that goes on. -/
theorem exists_left : ∃ left : Nat → Nat, (∀ x, x < 2 ^ 64 → left x ≤ 4000000000000000000) ∧ ∀ x y, x < 2 ^ 64 → win (f x) % 3 = 0 → (y = itf 2 x ∨ y = itf 4 x) → left y < left x := by
  obtain ⟨N, h1, h2⟩ := exists_bound
  refine ⟨far (N + 2), fun x hx => ?_, fun x y hx hl hy => step_of h2 hx hl hy⟩
  rw [far_stable (N + 1) x (bound_of h2 hx)]
  have := far_le (N + 1) x
  omega
end Go.Proofs.Ytphfiekhpicpgaa.Lcg
