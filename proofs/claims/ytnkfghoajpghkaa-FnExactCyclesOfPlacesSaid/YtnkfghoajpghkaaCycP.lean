/- Plain facts on the cycles of a box: one start after the other, counted and sorted. No program, no condition. -/
import Derived.Test.YtnkfghoajpghkaaKit
namespace Go.Proofs.Ytnkfghoajpghkaa
open Go.RowKit
/-- From y on, while not met: what is met then, and how many were new. -/
def cyc (b : Nat → UInt8) : Nat → (Nat → Bool) → Nat → (Nat → Bool) × Nat
  | 0, met, _ => (met, 0)
  | f + 1, met, y => if met y = true then (met, 0) else ((cyc b f (upd met y true) (b y).toNat).1, (cyc b f (upd met y true) (b y).toNat).2 + 1)
def unm (met : Nat → Bool) : Nat → Nat
  | 0 => 0
  | n + 1 => unm met n + (if met n = true then 0 else 1)
theorem unm_le (met : Nat → Bool) : ∀ n, unm met n ≤ n
  | 0 => Nat.le_refl _
  | n + 1 => by
    have := unm_le met n
    unfold unm
    split <;> omega
theorem unm_upd_far (met : Nat → Bool) (y : Nat) : ∀ n, n ≤ y → unm (upd met y true) n = unm met n
  | 0, _ => rfl
  | n + 1, h => by
    unfold unm
    rw [unm_upd_far met y n (by omega), upd_other _ _ (show n ≠ y by omega)]
theorem unm_upd (met : Nat → Bool) {y : Nat} (hm : met y = false) : ∀ n, y < n → unm (upd met y true) n + 1 = unm met n
  | n + 1, h => by
    unfold unm
    by_cases e : n = y
    · subst e
      rw [unm_upd_far met n n (Nat.le_refl _), upd_same, hm]
      simp
    · have := unm_upd met hm n (by omega)
      rw [upd_other _ _ e]
      omega
theorem cyc_met (b : Nat → UInt8) (f : Nat) {met : Nat → Bool} {y : Nat} (h : met y = true) : cyc b f met y = (met, 0) := by
  cases f with
  | zero => rfl
  | succ f => unfold cyc; rw [if_pos h]
theorem cyc_new (b : Nat → UInt8) (f : Nat) {met : Nat → Bool} {y : Nat} (h : met y = false) : cyc b (f + 1) met y = ((cyc b f (upd met y true) (b y).toNat).1, (cyc b f (upd met y true) (b y).toNat).2 + 1) := by
  conv => lhs; unfold cyc
  rw [if_neg (by rw [h]; simp)]
theorem unm_pos {met : Nat → Bool} {y n : Nat} (h : met y = false) (hy : y < n) : 0 < unm met n := by
  have := unm_upd met h n hy
  omega
/-- Behind the first x starts: what is met, and the lengths in their order. -/
def cycSt (b : Nat → UInt8) : Nat → (Nat → Bool) × List Nat
  | 0 => (fun _ => false, [])
  | x + 1 => ((cyc b 256 (cycSt b x).1 x).1, (cycSt b x).2 ++ [(cyc b 256 (cycSt b x).1 x).2])
theorem cycSt_len (b : Nat → UInt8) : ∀ x, (cycSt b x).2.length = x
  | 0 => rfl
  | x + 1 => by
    show ((cycSt b x).2 ++ [_]).length = _
    rw [List.length_append, cycSt_len b x]
    rfl
theorem cyc_le (b : Nat → UInt8) : ∀ (f : Nat) (met : Nat → Bool) (y : Nat), (cyc b f met y).2 ≤ f
  | 0, _, _ => Nat.le_refl _
  | f + 1, met, y => by
    unfold cyc
    split
    · exact Nat.zero_le _
    · have := cyc_le b f (upd met y true) (b y).toNat
      show _ + 1 ≤ f + 1
      omega
theorem cycSt_le (b : Nat → UInt8) : ∀ x, ∀ n ∈ (cycSt b x).2, n ≤ 256
  | 0, n, h => by cases h
  | x + 1, n, h => by
    have h : n ∈ (cycSt b x).2 ++ [(cyc b 256 (cycSt b x).1 x).2] := h
    rcases List.mem_append.1 h with h | h
    · exact cycSt_le b x n h
    · obtain rfl := List.mem_singleton.1 h
      exact cyc_le b 256 _ _
/-- Each length from 1 on, as often as it occurs. -/
def flatTo (l : List Nat) : Nat → List Int
  | 0 => []
  | n + 1 => flatTo l n ++ List.replicate (l.count (n + 1)) ((n + 1 : Nat) : Int)
def newL (l : List Nat) : List Int := (l.filter fun n => decide (0 < n)).map fun n : Nat => (n : Int)
theorem newL_snoc (l : List Nat) (n : Nat) : newL (l ++ [n]) = if 0 < n then newL l ++ [(n : Int)] else newL l := by
  unfold newL
  by_cases h : 0 < n
  · simp [h, List.filter_append]
  · simp [h, List.filter_append]
theorem count_newL (l : List Nat) (z : Int) : (newL l).count z = if 0 < z then l.count z.toNat else 0 := by
  induction l with
  | nil => simp [newL]
  | cons n l ih =>
    unfold newL at ih ⊢
    by_cases hn : 0 < n
    · rw [List.filter_cons_of_pos (by simpa using hn), List.map_cons, List.count_cons, ih, List.count_cons]
      by_cases hz : 0 < z
      · rw [if_pos hz, if_pos hz]
        congr 1
        by_cases e : (n : Int) = z
        · subst e; simp
        · have e2 : n ≠ z.toNat := by omega
          simp [e, e2]
      · rw [if_neg hz, if_neg hz]
        have e : (n : Int) ≠ z := by omega
        simp [e]
    · rw [List.filter_cons_of_neg (by simpa using hn), ih, List.count_cons]
      by_cases hz : 0 < z
      · rw [if_pos hz, if_pos hz]
        have e2 : n ≠ z.toNat := by omega
        simp [e2]
      · rw [if_neg hz, if_neg hz]
theorem count_flat (l : List Nat) (z : Int) : ∀ n : Nat, (flatTo l n).count z = if 0 < z ∧ z ≤ (n : Int) then l.count z.toNat else 0
  | 0 => by
    have h : ¬ (0 < z ∧ z ≤ ((0 : Nat) : Int)) := by omega
    rw [if_neg h]
    rfl
  | n + 1 => by
    have ih := count_flat l z n
    unfold flatTo
    rw [List.count_append, ih, List.count_replicate]
    by_cases e : z = ((n + 1 : Nat) : Int)
    · have h1 : ¬ (0 < z ∧ z ≤ (n : Int)) := by omega
      have h2 : 0 < z ∧ z ≤ ((n + 1 : Nat) : Int) := by omega
      have h3 : z.toNat = n + 1 := by omega
      rw [if_neg h1, if_pos h2, h3, e]
      simp
    · have e3 : (((n + 1 : Nat) : Int) == z) = false := by rw [beq_eq_false_iff_ne]; exact fun h => e h.symm
      rw [e3]
      by_cases h : 0 < z ∧ z ≤ (n : Int)
      · have h2 : 0 < z ∧ z ≤ ((n + 1 : Nat) : Int) := by omega
        rw [if_pos h, if_pos h2]
        simp
      · have h2 : ¬ (0 < z ∧ z ≤ ((n + 1 : Nat) : Int)) := by omega
        rw [if_neg h, if_neg h2]
        simp
theorem flat_sorted (l : List Nat) : ∀ n : Nat, (flatTo l n).Pairwise (· ≤ ·) ∧ ∀ z ∈ flatTo l n, z ≤ n
  | 0 => ⟨List.Pairwise.nil, fun z h => by cases h⟩
  | n + 1 => by
    obtain ⟨h1, h2⟩ := flat_sorted l n
    unfold flatTo
    refine ⟨List.pairwise_append.2 ⟨h1, List.pairwise_replicate.2 (.inr (Int.le_refl _)), fun x hx y hy => ?_⟩, fun z hz => ?_⟩
    · have := h2 x hx
      rw [(List.mem_replicate.1 hy).2]
      omega
    · rcases List.mem_append.1 hz with h | h
      · have := h2 z h
        omega
      · rw [(List.mem_replicate.1 h).2]
        omega
theorem sorted_eq : ∀ {x y : List Int}, x.Pairwise (· ≤ ·) → y.Pairwise (· ≤ ·) → (∀ z, x.count z = y.count z) → x = y
  | [], [], _, _, _ => rfl
  | [], b :: y, _, _, hc => by
    have := hc b
    simp at this
  | a :: x, [], _, _, hc => by
    have := hc a
    simp at this
  | a :: x, b :: y, hx, hy, hc => by
    have ha : a ∈ b :: y := List.count_pos_iff.1 (by rw [← hc a]; simp)
    have hb : b ∈ a :: x := List.count_pos_iff.1 (by rw [hc b]; simp)
    have h1 : b ≤ a := by
      rcases List.mem_cons.1 ha with e | h
      · omega
      · exact (List.pairwise_cons.1 hy).1 a h
    have h2 : a ≤ b := by
      rcases List.mem_cons.1 hb with e | h
      · omega
      · exact (List.pairwise_cons.1 hx).1 b h
    obtain rfl : a = b := by omega
    rw [sorted_eq (List.pairwise_cons.1 hx).2 (List.pairwise_cons.1 hy).2 fun z => by
      have := hc z
      rw [List.count_cons, List.count_cons] at this
      omega]
theorem sort_flat (l : List Nat) (hl : ∀ n ∈ l, n ≤ 256) : (newL l).mergeSort (fun x y => decide (x ≤ y)) = flatTo l 256 := by
  refine sorted_eq ?_ (flat_sorted l 256).1 fun z => ?_
  · have := List.pairwise_mergeSort (le := fun x y : Int => decide (x ≤ y)) (fun a b c h1 h2 => by simp at *; omega) (fun a b => by simp; omega) (newL l)
    exact this.imp fun h => by simpa using h
  · rw [(List.mergeSort_perm (newL l) _).count_eq, count_newL, count_flat]
    by_cases hz : 0 < z
    · rw [if_pos hz]
      by_cases h2 : z ≤ (256 : Nat)
      · rw [if_pos ⟨hz, h2⟩]
      · rw [if_neg (fun h => h2 h.2)]
        refine List.count_eq_zero.2 fun hm => ?_
        have := hl _ hm
        omega
    · rw [if_neg hz, if_neg (fun h => hz h.1)]
end Go.Proofs.Ytnkfghoajpghkaa
