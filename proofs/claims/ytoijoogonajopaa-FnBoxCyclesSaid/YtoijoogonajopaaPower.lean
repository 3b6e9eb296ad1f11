/- Contracts: powers, traces and the pair-valued functions of the field layer, by the program and by the reference. No condition. -/
import Derived.Test.YtoijoogonajopaaRows
import Derived.Test.YtoijoogonajopaaTimes
namespace Go.Proofs.Ytoijoogonajopaa
open Go.RowKit Plain
namespace Plain
def PW (m : Nat) : Nat → Nat → Nat → Nat → Nat
  | 0, o, _, _ => o
  | f + 1, o, a, k => if k = 0 then o else PW m f (if k % 2 = 1 then timesI m o a else o) (timesI m a a) (k / 2)
def powN (m a k : Nat) : Nat := PW m 32 1 a k
theorem PW_zero (m : Nat) : ∀ f o a, PW m f o a 0 = o
  | 0, _, _ => rfl
  | _ + 1, _, _ => by unfold PW; rw [if_pos rfl]
theorem PW_lt {m : Nat} (h1 : 256 ≤ m) (h2 : m < 512) : ∀ f o a k, o < 256 → a < 256 → PW m f o a k < 256
  | 0, _, _, _, ho, _ => ho
  | f + 1, o, a, k, ho, ha => by
    unfold PW
    split
    · exact ho
    · refine PW_lt h1 h2 f _ _ _ ?_ (timesI_lt h1 h2 ha)
      split
      · exact timesI_lt h1 h2 ho
      · exact ho
theorem powN_lt {m a k : Nat} (h1 : 256 ≤ m) (h2 : m < 512) (ha : a < 256) : powN m a k < 256 := PW_lt h1 h2 _ _ _ _ (by omega) ha
def trA (m a : Nat) : Nat → Nat
  | 0 => a
  | k + 1 => timesI m (trA m a k) (trA m a k)
def trS (m a : Nat) : Nat → Nat
  | 0 => 0
  | k + 1 => trS m a k ^^^ trA m a k
theorem trA_lt {m a : Nat} (h1 : 256 ≤ m) (h2 : m < 512) (ha : a < 256) : ∀ k, trA m a k < 256
  | 0 => ha
  | k + 1 => timesI_lt h1 h2 (trA_lt h1 h2 ha k)
theorem trS_lt {m a : Nat} (h1 : 256 ≤ m) (h2 : m < 512) (ha : a < 256) : ∀ k, trS m a k < 256
  | 0 => by show (0 : Nat) < 256; omega
  | k + 1 => Nat.xor_lt_two_pow (n := 8) (trS_lt h1 h2 ha k) (trA_lt h1 h2 ha k)
def lpw (m g : Nat) : Nat → Nat
  | 0 => 1
  | k + 1 => timesI m (lpw m g k) g
theorem lpw_lt {m g : Nat} (h1 : 256 ≤ m) (h2 : m < 512) : ∀ k, lpw m g k < 256
  | 0 => by show (1 : Nat) < 256; omega
  | k + 1 => timesI_lt h1 h2 (lpw_lt h1 h2 k)
/-- The least number below n that p holds of. -/
def leastB (p : Nat → Bool) (n : Nat) : Option Nat := (List.range n).find? p
theorem leastB_some {p : Nat → Bool} : ∀ {n k : Nat}, k < n → p k = true → (∀ i, i < k → p i = false) → leastB p n = some k
  | 0, k, hk, _, _ => absurd hk (Nat.not_lt_zero k)
  | n + 1, k, hk, hp, hi => by
    unfold leastB
    rw [List.range_succ, List.find?_append]
    by_cases h : k < n
    · have := leastB_some h hp hi
      unfold leastB at this
      rw [this]
      rfl
    · obtain rfl : k = n := by omega
      have h0 : (List.range k).find? p = none := List.find?_eq_none.2 fun x hx => by
        rw [hi x (List.mem_range.1 hx)]
        simp
      rw [h0]
      simp [hp]
theorem leastB_none {p : Nat → Bool} {n : Nat} (hi : ∀ i, i < n → p i = false) : leastB p n = none :=
  List.find?_eq_none.2 fun x hx => by
    rw [hi x (List.mem_range.1 hx)]
    simp
def orCode (c : Int) : Option Nat → Int × Int
  | some x => (x, 0)
  | none => (0, c)
end Plain
def timesV (m : Int) (a b : Nat) : Int × Int := if fieldB m then (timesI m.toNat a b, 0) else (0, 1)
def powerV (m : Int) (a : Nat) (k : Int) : Int × Int := if fieldB m then (if inB k 0 1000000000 then (powN m.toNat a k.toNat, 0) else (0, 2)) else (0, 1)
def inverseV (m : Int) (a : Nat) : Int × Int := if fieldB m then (if a = 0 then (0, 5) else (powN m.toNat a 254, 0)) else (0, 1)
def rootV (m : Int) (a : Nat) : Int × Int := if fieldB m then (powN m.toNat a 128, 0) else (0, 1)
def traceV (m : Int) (a : Nat) : Int × Int := if fieldB m then (trS m.toNat a 8, 0) else (0, 1)
def quadraticV (m : Int) (a : Nat) : Int × Int := if fieldB m then orCode 4 (leastB (fun x => timesI m.toNat x x ^^^ x == a) 256) else (0, 1)
def logarithmV (m : Int) (g a : Nat) : Int × Int := if fieldB m then orCode 4 (leastB (fun k => lpw m.toNat g k == a) 256) else (0, 1)
theorem ret_pairV {k : IntKind} {v : Int × Int} {x c : Int} (h : v = (x, c)) : Ending.returned (.tuple #[.int k x, .int .i64 c]) = .returned (.tuple #[.int k v.1, .int .i64 v.2]) := by rw [h]
theorem inB_nat {k : Int} (h : inB k 0 1000000000 = true) : ∃ n : Nat, k = n ∧ n ≤ 1000000000 := by
  unfold inB at h
  simp only [Bool.and_eq_true, decide_eq_true_eq] at h
  exact ⟨k.toNat, by omega, by omega⟩

end Go.Proofs.Ytoijoogonajopaa
