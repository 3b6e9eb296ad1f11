/- Plain facts on the cycles of places: trails until a met place, and their lists. No program. -/
import Derived.Test.YtnkfghoajpghkaaRows
import Derived.Test.YtnkfghoajpghkaaCycP
import Derived.Test.YtnkfghoajpghkaaPlain
set_option linter.unusedVariables false
namespace Go.Proofs.Ytnkfghoajpghkaa
open Plain
/-- The trail from y until a met place: what is met behind it, and the places on it. f bounds its length. -/
def trail (p : Nat → UInt8) : Nat → (Nat → Bool) → Nat → (Nat → Bool) × List Int
  | 0, met, _ => (met, [])
  | f + 1, met, y => if met y = true then (met, []) else ((trail p f (upd met y true) (p y).toNat).1, (y : Int) :: (trail p f (upd met y true) (p y).toNat).2)
theorem trail_met (p : Nat → UInt8) {met : Nat → Bool} {y : Nat} (h : met y = true) : ∀ f, trail p f met y = (met, [])
  | 0 => rfl
  | f + 1 => by unfold trail; rw [if_pos h]
theorem trail_new (p : Nat → UInt8) {met : Nat → Bool} {y : Nat} (h : met y = false) (f : Nat) : trail p (f + 1) met y = ((trail p f (upd met y true) (p y).toNat).1, (y : Int) :: (trail p f (upd met y true) (p y).toNat).2) := by
  conv => lhs; unfold trail
  rw [if_neg (by rw [h]; decide)]
theorem trail_len (p : Nat → UInt8) : ∀ f met y, (trail p f met y).2.length ≤ f
  | 0, _, _ => Nat.le_refl _
  | f + 1, met, y => by
    cases h : met y with
    | true => rw [trail_met p h]; exact Nat.zero_le _
    | false =>
      rw [trail_new p h]
      have := trail_len p f (upd met y true) (p y).toNat
      simp
      omega
/-- Behind the first k starts: what is met, and the trails that are not empty, in their order. -/
def trSt (p : Nat → UInt8) : Nat → (Nat → Bool) × List (List Int)
  | 0 => (fun _ => false, [])
  | k + 1 => ((trail p 16 (trSt p k).1 k).1, if (trail p 16 (trSt p k).1 k).2 = [] then (trSt p k).2 else (trSt p k).2 ++ [(trail p 16 (trSt p k).1 k).2])
theorem trSt_len (p : Nat → UInt8) : ∀ k, (trSt p k).2.length ≤ k
  | 0 => Nat.le_refl _
  | k + 1 => by
    have := trSt_len p k
    show (if _ then _ else _ : List (List Int)).length ≤ k + 1
    split
    · omega
    · simp; omega
theorem trSt_each (p : Nat → UInt8) : ∀ k, ∀ l ∈ (trSt p k).2, l ≠ [] ∧ l.length ≤ 16
  | 0, l, h => by cases h
  | k + 1, l, h => by
    have ih := trSt_each p k
    have h : l ∈ (if (trail p 16 (trSt p k).1 k).2 = [] then (trSt p k).2 else (trSt p k).2 ++ [(trail p 16 (trSt p k).1 k).2]) := h
    split at h
    · exact ih l h
    · rename_i hne
      rcases List.mem_append.1 h with h | h
      · exact ih l h
      · obtain rfl := List.mem_singleton.1 h
        exact ⟨hne, trail_len p 16 _ _⟩
end Go.Proofs.Ytnkfghoajpghkaa
