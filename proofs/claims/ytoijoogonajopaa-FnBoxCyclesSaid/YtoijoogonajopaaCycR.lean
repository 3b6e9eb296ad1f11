/- Plain facts: the cycles of a permutation close, their lengths sum up, and the power by their order is the unit. No program, no condition. -/
import Derived.Test.YtoijoogonajopaaOrdQ
import Derived.Test.YtoijoogonajopaaPlain
namespace Go.Proofs.Ytoijoogonajopaa
open Go.RowKit Plain
def it (b : Nat → UInt8) : Nat → Nat → Nat
  | 0, y => y
  | n + 1, y => it b n (b y).toNat
theorem it_add (b : Nat → UInt8) (n : Nat) : ∀ m y, it b (m + n) y = it b n (it b m y)
  | 0, y => by rw [Nat.zero_add]; rfl
  | m + 1, y => by
    rw [show m + 1 + n = (m + n) + 1 by omega]
    show it b (m + n) (b y).toNat = it b n (it b m (b y).toNat)
    exact it_add b n m _
theorem it_succ (b : Nat → UInt8) (n y : Nat) : it b (n + 1) y = (b (it b n y)).toNat := it_add b 1 n y
theorem it_lt (b : Nat → UInt8) {y : Nat} (hy : y < 256) : ∀ n, it b n y < 256
  | 0 => hy
  | n + 1 => by rw [it_succ]; exact (b _).toNat_lt
theorem it_mul (b : Nat → UInt8) {n y : Nat} (h : it b n y = y) : ∀ k, it b (n * k) y = y
  | 0 => rfl
  | k + 1 => by rw [Nat.mul_succ, it_add, it_mul b h k, h]
theorem it_fix (b : Nat → UInt8) {y : Nat} (h : (b y).toNat = y) : ∀ k, it b k y = y
  | 0 => rfl
  | k + 1 => by show it b k (b y).toNat = y; rw [h]; exact it_fix b h k
theorem b_inj {b : Nat → UInt8} (hp : Perm b) {x y : Nat} (hx : x < 256) (hy : y < 256) (h : (b x).toNat = (b y).toNat) : x = y :=
  hp x y hx hy (UInt8.toNat_inj.1 h)
theorem it_inj {b : Nat → UInt8} (hp : Perm b) : ∀ n x y, x < 256 → y < 256 → it b n x = it b n y → x = y
  | 0, _, _, _, _, h => h
  | n + 1, x, y, hx, hy, h => b_inj hp hx hy (it_inj hp n _ _ (b x).toNat_lt (b y).toNat_lt h)
theorem cyc_spec (b : Nat → UInt8) : ∀ (f : Nat) (met : Nat → Bool) (y : Nat),
    (∀ i, i < (cyc b f met y).2 → met (it b i y) = false) ∧
    (∀ z, (cyc b f met y).1 z = true ↔ (met z = true ∨ ∃ i, i < (cyc b f met y).2 ∧ z = it b i y)) ∧
    (∀ j, 0 < j → j < (cyc b f met y).2 → it b j y ≠ y) ∧
    ((cyc b f met y).2 = f ∨ (cyc b f met y).1 (it b (cyc b f met y).2 y) = true)
  | 0, met, y => by
    refine ⟨fun i h => absurd h (Nat.not_lt_zero i), fun z => ⟨.inl, ?_⟩, fun j _ h => absurd h (Nat.not_lt_zero j), .inl rfl⟩
    rintro (h | ⟨i, h, _⟩)
    · exact h
    · exact absurd h (Nat.not_lt_zero i)
  | f + 1, met, y => by
    cases h : met y with
    | true =>
      rw [cyc_met b _ h]
      refine ⟨fun i h => absurd h (Nat.not_lt_zero i), fun z => ⟨.inl, ?_⟩, fun j _ h => absurd h (Nat.not_lt_zero j), .inr h⟩
      rintro (h | ⟨i, h, _⟩)
      · exact h
      · exact absurd h (Nat.not_lt_zero i)
    | false =>
      rw [cyc_new b f h]
      obtain ⟨i1, i2, _, i4⟩ := cyc_spec b f (upd met y true) (b y).toNat
      have off : ∀ j, j < (cyc b f (upd met y true) (b y).toNat).2 → it b j (b y).toNat ≠ y ∧ met (it b j (b y).toNat) = false := fun j hj => by
        have h1 := i1 j hj
        by_cases e : it b j (b y).toNat = y
        · rw [e, upd_same] at h1
          cases h1
        · rw [upd_other _ _ e] at h1
          exact ⟨e, h1⟩
      refine ⟨fun i hi => ?_, fun z => ?_, fun j hj hj2 => ?_, ?_⟩
      · cases i with
        | zero => exact h
        | succ i => exact (off i (by simp only at hi; omega)).2
      · simp only
        rw [i2 z]
        constructor
        · rintro (h1 | ⟨i, hi, e⟩)
          · by_cases e : z = y
            · exact .inr ⟨0, by omega, e⟩
            · rw [upd_other _ _ e] at h1
              exact .inl h1
          · exact .inr ⟨i + 1, by omega, e⟩
        · rintro (h1 | ⟨i, hi, e⟩)
          · by_cases e : z = y
            · subst e; exact .inl (upd_same _ _ _)
            · exact .inl (by rw [upd_other _ _ e]; exact h1)
          · cases i with
            | zero =>
              obtain rfl : z = y := e
              exact .inl (upd_same _ _ _)
            | succ i => exact .inr ⟨i, by omega, e⟩
      · cases j with
        | zero => omega
        | succ j => exact (off j (by simp only at hj2; omega)).1
      · rcases i4 with h4 | h4
        · exact .inl (by simp only; rw [h4])
        · exact .inr h4
theorem unm_zero (met : Nat → Bool) : ∀ n, unm met n = 0 → ∀ z, z < n → met z = true
  | 0, _, z, h => absurd h (Nat.not_lt_zero z)
  | n + 1, h, z, hz => by
    unfold unm at h
    by_cases e : z = n
    · subst e
      by_cases hm : met z = true
      · exact hm
      · rw [if_neg hm] at h; omega
    · exact unm_zero met n (by omega) z (by omega)
/-- As many places below k as b leaves alone. -/
def fixN (b : Nat → UInt8) : Nat → Nat
  | 0 => 0
  | k + 1 => fixN b k + if (b k).toNat = k then 1 else 0
structure CInv (b : Nat → UInt8) (x : Nat) (met : Nat → Bool) (l : List Nat) : Prop where
  small : ∀ z, z < x → met z = true
  fwd : ∀ z, z < 256 → met z = true → met (b z).toNat = true
  bwd : ∀ z, z < 256 → met (b z).toNat = true → met z = true
  back : ∀ z, z < 256 → met z = true → ∃ n ∈ l, 0 < n ∧ it b n z = z
  fix : ∀ z, z < 256 → met z = true → (b z).toNat = z → z < x
  ones : l.count 1 = fixN b x
theorem met_back {b : Nat → UInt8} {x : Nat} {met : Nat → Bool} {l : List Nat} (h : CInv b x met l) {y : Nat} (hy : y < 256) : ∀ k, met (it b k y) = true → met y = true
  | 0, h1 => h1
  | k + 1, h1 => by
    rw [it_succ] at h1
    exact met_back h hy k (h.bwd _ (it_lt b hy k) h1)
theorem cinv {b : Nat → UInt8} (hp : Perm b) : ∀ x, x ≤ 256 → CInv b x (cycSt b x).1 (cycSt b x).2
  | 0, _ => ⟨fun z h => absurd h (Nat.not_lt_zero z), fun _ _ h => (by cases h), fun _ _ h => (by cases h), fun _ _ h => (by cases h), fun _ _ h => (by cases h), rfl⟩
  | x + 1, hx => by
    have I := cinv hp x (by omega)
    have hx256 : x < 256 := by omega
    cases hm : (cycSt b x).1 x with
    | true =>
      have e : cycSt b (x + 1) = ((cycSt b x).1, (cycSt b x).2 ++ [0]) := by
        show ((cyc b 256 (cycSt b x).1 x).1, (cycSt b x).2 ++ [(cyc b 256 (cycSt b x).1 x).2]) = _
        rw [cyc_met b _ hm]
      rw [e]
      refine ⟨fun z hz => ?_, I.fwd, I.bwd, fun z hz h => ?_, fun z hz h h2 => ?_, ?_⟩
      · by_cases e : z = x
        · subst e; exact hm
        · exact I.small z (by omega)
      · obtain ⟨n, hn, h1⟩ := I.back z hz h
        exact ⟨n, List.mem_append_left _ hn, h1⟩
      · have := I.fix z hz h h2
        omega
      · show ((cycSt b x).2 ++ [0]).count 1 = fixN b x + _
        rw [if_neg (fun h => by have := I.fix x hx256 hm h; omega), List.count_append, I.ones]
        rfl
    | false =>
      obtain ⟨s1, s2, s3, s4⟩ := cyc_spec b 256 (cycSt b x).1 x
      have hu := cyc_unm b 256 (cycSt b x).1 x hx256
      have hpos : 0 < (cyc b 256 (cycSt b x).1 x).2 := by rw [cyc_new b 255 hm]; exact Nat.succ_pos _
      have e : cycSt b (x + 1) = ((cyc b 256 (cycSt b x).1 x).1, (cycSt b x).2 ++ [(cyc b 256 (cycSt b x).1 x).2]) := rfl
      rw [e]
      obtain ⟨met', hmet⟩ : ∃ m, (cyc b 256 (cycSt b x).1 x).1 = m := ⟨_, rfl⟩
      obtain ⟨n, hn⟩ : ∃ n, (cyc b 256 (cycSt b x).1 x).2 = n := ⟨_, rfl⟩
      rw [hmet] at s2 s4 hu ⊢
      rw [hn] at s1 s2 s3 s4 hu hpos ⊢
      have hend : met' (it b n x) = true := by
        rcases s4 with h4 | h4
        · have := unm_le (cycSt b x).1 256
          exact unm_zero met' 256 (by omega) _ (it_lt b hx256 n)
        · exact h4
      have key : it b n x = x := by
        rcases (s2 _).1 hend with h1 | ⟨i, hi, h1⟩
        · rw [met_back I hx256 n h1] at hm
          cases hm
        · have h2 : it b ((n - i) + i) x = it b i x := by rw [show n - i + i = n by omega]; exact h1
          rw [it_add] at h2
          have h3 := it_inj hp i _ _ (it_lt b hx256 _) hx256 h2
          by_cases hi0 : i = 0
          · subst hi0; exact h3
          · exact absurd h3 (s3 (n - i) (by omega) (by omega))
      have round : ∀ i, it b n (it b i x) = it b i x := fun i => by rw [← it_add, Nat.add_comm, it_add, key]
      refine ⟨fun z hz => ?_, fun z hz h => ?_, fun z hz h => ?_, fun z hz h => ?_, fun z hz h h2 => ?_, ?_⟩
      · by_cases e : z = x
        · exact (s2 z).2 (.inr ⟨0, hpos, e⟩)
        · exact (s2 z).2 (.inl (I.small z (by omega)))
      · rcases (s2 z).1 h with h1 | ⟨i, hi, rfl⟩
        · exact (s2 _).2 (.inl (I.fwd z hz h1))
        · by_cases hi2 : i + 1 < n
          · exact (s2 _).2 (.inr ⟨i + 1, hi2, (it_succ b i x).symm⟩)
          · obtain rfl : n = i + 1 := by omega
            exact (s2 _).2 (.inr ⟨0, hpos, by rw [← it_succ]; exact key⟩)
      · rcases (s2 _).1 h with h1 | ⟨i, hi, h1⟩
        · exact (s2 _).2 (.inl (I.bwd z hz h1))
        · cases i with
          | zero =>
            obtain ⟨k, rfl⟩ : ∃ k, n = k + 1 := ⟨n - 1, by omega⟩
            rw [it_succ] at key
            have : z = it b k x := b_inj hp hz (it_lt b hx256 k) (by rw [key]; exact h1)
            exact (s2 _).2 (.inr ⟨k, by omega, this⟩)
          | succ i =>
            rw [it_succ] at h1
            exact (s2 _).2 (.inr ⟨i, by omega, b_inj hp hz (it_lt b hx256 i) h1⟩)
      · rcases (s2 z).1 h with h1 | ⟨i, hi, rfl⟩
        · obtain ⟨k, hk, h3⟩ := I.back z hz h1
          exact ⟨k, List.mem_append_left _ hk, h3⟩
        · exact ⟨n, List.mem_append_right _ (List.mem_singleton.2 rfl), hpos, round i⟩
      · rcases (s2 z).1 h with h1 | ⟨i, hi, rfl⟩
        · have := I.fix z hz h1 h2
          omega
        · have h3 := it_fix b h2 (n - i)
          rw [← it_add, show i + (n - i) = n by omega, key] at h3
          omega
      · show ((cycSt b x).2 ++ [n]).count 1 = fixN b x + _
        rw [List.count_append, I.ones, List.count_singleton]
        congr 1
        by_cases h1 : (b x).toNat = x
        · have : n = 1 := by
            by_cases h2 : n = 1
            · exact h2
            · exact absurd h1 (s3 1 (by omega) (by omega))
          rw [if_pos h1, this]
          rfl
        · rw [if_neg h1]
          have : n ≠ 1 := fun e => by subst e; exact h1 key
          simp [this]
theorem sum_pos (l : List Nat) : (l.filter fun n => decide (0 < n)).sum = l.sum := by
  induction l with
  | nil => rfl
  | cons a l ih =>
    rw [List.filter_cons]
    split
    · simp only [List.sum_cons, ih]
    · rename_i h
      have : a = 0 := by simpa using h
      simp only [List.sum_cons, ih, this, Nat.zero_add]
theorem sum_toNat (l : List Int) (h : ∀ z ∈ l, 1 ≤ z) : l.sum = ((l.map Int.toNat).sum : Nat) := by
  induction l with
  | nil => rfl
  | cons a l ih =>
    have h1 := h a (.head _)
    have h2 := ih fun z hz => h z (.tail _ hz)
    simp only [List.sum_cons, List.map_cons]
    omega
/-- The lengths sum up to 256. -/
theorem flat_total {b : Nat → UInt8} (hp : Perm b) : (flatTo (cycSt b 256).2 256).sum = 256 := by
  have hs := cycSt_sum b 256 (Nat.le_refl _)
  have I := cinv hp 256 (Nat.le_refl _)
  have hu : ∀ n, n ≤ 256 → unm (cycSt b 256).1 n = 0 := by
    intro n
    induction n with
    | zero => intro _; rfl
    | succ n ih => intro h; unfold unm; rw [ih (by omega), if_pos (I.small n (by omega))]
  rw [hu 256 (Nat.le_refl _)] at hs
  rw [sum_toNat _ (fun z hz => (flat_ge _ 256 z hz).1), ← sort_flat _ (cycSt_le b 256), ((List.mergeSort_perm (newL (cycSt b 256).2) _).map Int.toNat).sum_nat, newL_nat, sum_pos]
  omega
theorem flat_ones {b : Nat → UInt8} (hp : Perm b) : (flatTo (cycSt b 256).2 256).count 1 = fixN b 256 := by
  rw [count_flat, if_pos (by omega)]
  exact (cinv hp 256 (Nat.le_refl _)).ones
theorem ord_mem {z : Nat → Nat} : ∀ k i, i < k → z i ∣ ordTo z k
  | 0, i, h => absurd h (Nat.not_lt_zero i)
  | k + 1, i, h => by
    unfold ordTo
    by_cases e : i = k
    · subst e; exact Nat.dvd_lcm_right _ _
    · exact Nat.dvd_trans (ord_mem k i (by omega)) (Nat.dvd_lcm_left _ _)
theorem len_of_mem {b : Nat → UInt8} {n : Nat} (h : n ∈ (cycSt b 256).2) (hn : 0 < n) : ∃ i, i < (flatTo (cycSt b 256).2 256).length ∧ lenZ b i = n := by
  have hle := cycSt_le b 256 n h
  have h1 : (flatTo (cycSt b 256).2 256).count (n : Int) = (cycSt b 256).2.count n := by
    rw [count_flat, if_pos (by omega)]
    simp
  have h2 : (n : Int) ∈ flatTo (cycSt b 256).2 256 := by
    rw [← List.count_pos_iff, h1, List.count_pos_iff]
    exact h
  obtain ⟨i, hi⟩ := List.getElem?_of_mem h2
  have hil : i < (flatTo (cycSt b 256).2 256).length := (List.getElem?_eq_some_iff.1 hi).1
  refine ⟨i, hil, ?_⟩
  unfold lenZ
  rw [List.getD_eq_getElem?_getD, List.getElem?_map, hi]
  simp
theorem ord_unit {b : Nat → UInt8} (hp : Perm b) {y : Nat} (hy : y < 256) : it b (ordTo (lenZ b) (flatTo (cycSt b 256).2 256).length) y = y := by
  have I := cinv hp 256 (Nat.le_refl _)
  obtain ⟨n, hn, h0, h1⟩ := I.back y hy (I.small y hy)
  obtain ⟨i, hi, rfl⟩ := len_of_mem hn h0
  obtain ⟨k, hk⟩ := ord_mem (z := lenZ b) _ i hi
  rw [hk]
  exact it_mul b h1 k
end Go.Proofs.Ytoijoogonajopaa
