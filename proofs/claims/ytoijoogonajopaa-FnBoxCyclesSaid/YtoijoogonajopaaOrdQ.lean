/- Plain facts: the lengths of the cycles of a box sum up to at most 256. No program, no condition. -/
import Derived.Test.YtoijoogonajopaaOrdP
namespace Go.Proofs.Ytoijoogonajopaa
theorem cyc_unm (b : Nat → UInt8) : ∀ (f : Nat) (met : Nat → Bool) (y : Nat), y < 256 → (cyc b f met y).2 + unm (cyc b f met y).1 256 = unm met 256
  | 0, met, y, _ => by show 0 + unm met 256 = _; omega
  | f + 1, met, y, hy => by
    cases h : met y with
    | true => rw [cyc_met b _ h]; show 0 + unm met 256 = _; omega
    | false =>
      rw [cyc_new b f h]
      have ih := cyc_unm b f (upd met y true) (b y).toNat (b y).toNat_lt
      have hu := unm_upd met h 256 hy
      show (cyc b f (upd met y true) (b y).toNat).2 + 1 + unm (cyc b f (upd met y true) (b y).toNat).1 256 = _
      omega
theorem unm_false : ∀ n, unm (fun _ => false) n = n
  | 0 => rfl
  | n + 1 => by unfold unm; rw [unm_false n]; rfl
theorem cycSt_sum (b : Nat → UInt8) : ∀ x, x ≤ 256 → (cycSt b x).2.sum + unm (cycSt b x).1 256 = 256
  | 0, _ => by
    have h := unm_false 256
    show 0 + unm (fun _ => false) 256 = 256
    rw [h]
  | x + 1, hx => by
    have ih := cycSt_sum b x (by omega)
    have hc := cyc_unm b 256 (cycSt b x).1 x (by omega)
    show ((cycSt b x).2 ++ [(cyc b 256 (cycSt b x).1 x).2]).sum + unm (cyc b 256 (cycSt b x).1 x).1 256 = 256
    rw [List.sum_append]
    simp only [List.sum_cons, List.sum_nil]
    omega
theorem sum_filter (l : List Nat) (p : Nat → Bool) : (l.filter p).sum ≤ l.sum := by
  induction l with
  | nil => exact Nat.le_refl _
  | cons a l ih =>
    rw [List.filter_cons]
    split
    · simp only [List.sum_cons]; omega
    · simp only [List.sum_cons]; omega
theorem newL_nat (l : List Nat) : (newL l).map Int.toNat = l.filter fun n => decide (0 < n) := by
  unfold newL
  rw [List.map_map]
  have : (Int.toNat ∘ fun n : Nat => (n : Int)) = id := by funext n; simp
  rw [this, List.map_id]
theorem flat_sum (b : Nat → UInt8) : ((flatTo (cycSt b 256).2 256).map Int.toNat).sum ≤ 256 := by
  have h := cycSt_sum b 256 (by omega)
  rw [← sort_flat _ (cycSt_le b 256), ((List.mergeSort_perm (newL (cycSt b 256).2) _).map Int.toNat).sum_nat, newL_nat]
  have := sum_filter (cycSt b 256).2 fun n => decide (0 < n)
  omega
theorem flat_ge (l : List Nat) : ∀ n : Nat, ∀ z ∈ flatTo l n, 1 ≤ z ∧ z ≤ n
  | 0, z, h => by cases h
  | n + 1, z, hz => by
    unfold flatTo at hz
    rcases List.mem_append.1 hz with h | h
    · have := flat_ge l n z h
      omega
    · rw [(List.mem_replicate.1 h).2]
      omega
theorem sumZ_peel (f : Nat → Nat) : ∀ k, sumZ f (k + 1) = f 0 + sumZ (fun i => f (i + 1)) k
  | 0 => by show 0 + f 0 = f 0 + 0; omega
  | k + 1 => by
    have := sumZ_peel f k
    show sumZ f (k + 1) + f (k + 1) = f 0 + (sumZ (fun i => f (i + 1)) k + f (k + 1))
    omega
theorem sumZ_zero : ∀ k, sumZ (fun _ => 0) k = 0
  | 0 => rfl
  | k + 1 => by show sumZ (fun _ => 0) k + 0 = 0; rw [sumZ_zero k]
theorem sumZ_list : ∀ (l : List Nat) (k : Nat), sumZ (fun i => l.getD i 0) k ≤ l.sum
  | [], k => by
    have : (fun i => ([] : List Nat).getD i 0) = fun _ => 0 := by funext i; simp
    rw [this, sumZ_zero]
    exact Nat.zero_le _
  | a :: l, 0 => Nat.zero_le _
  | a :: l, k + 1 => by
    rw [sumZ_peel]
    have ih := sumZ_list l k
    have h0 : (a :: l).getD 0 0 = a := rfl
    have h1 : (fun i => (a :: l).getD (i + 1) 0) = fun i => l.getD i 0 := rfl
    rw [h0, h1, List.sum_cons]
    omega
/-- The i-th length. -/
def lenZ (b : Nat → UInt8) (i : Nat) : Nat := ((flatTo (cycSt b 256).2 256).map Int.toNat).getD i 0
theorem nat_in {l : List Int} (hl : ∀ z ∈ l, 1 ≤ z ∧ z ≤ 256) {i : Nat} (h : i < l.length) : 1 ≤ (l.map Int.toNat).getD i 0 ∧ (l.map Int.toNat).getD i 0 ≤ 256 ∧ l.getD i 0 = (((l.map Int.toNat).getD i 0 : Nat) : Int) := by
  have hm := hl _ (List.getElem_mem h)
  rw [List.getD_eq_getElem?_getD, List.getD_eq_getElem?_getD, List.getElem?_map, List.getElem?_eq_getElem h]
  simp only [Option.map_some, Option.getD_some]
  omega
theorem lenZ_in (b : Nat → UInt8) {i : Nat} (h : i < (flatTo (cycSt b 256).2 256).length) : 1 ≤ lenZ b i ∧ lenZ b i ≤ 256 ∧ (flatTo (cycSt b 256).2 256).getD i 0 = (lenZ b i : Int) :=
  nat_in (flat_ge (cycSt b 256).2 256) h
theorem ord_ok (b : Nat → UInt8) {k : Nat} (h : k ≤ (flatTo (cycSt b 256).2 256).length) : 0 < ordTo (lenZ b) k ∧ ordTo (lenZ b) k < 9223372036854775808 := by
  have hz : ∀ i, i < k → 1 ≤ lenZ b i ∧ lenZ b i ≤ 256 := fun i hi => by
    have := lenZ_in b (i := i) (by omega)
    omega
  refine ⟨ord_pos k fun i hi => (hz i hi).1, ord_bound hz (Nat.le_trans (sumZ_list _ k) (flat_sum b))⟩
theorem lcm_div {p z g : Nat} (hg : Nat.gcd p z = g) : p / g * z = Nat.lcm p z := by
  subst hg
  unfold Nat.lcm
  rw [Nat.div_mul_right_comm (Nat.gcd_dvd_left p z)]
theorem lcm_div2 {p z g : Nat} (hg : Nat.gcd p z = g) : p * (z / g) = Nat.lcm p z := by
  subst hg
  unfold Nat.lcm
  rw [Nat.mul_div_assoc _ (Nat.gcd_dvd_right p z)]
end Go.Proofs.Ytoijoogonajopaa
