/- Contracts: ranges, by the program and by the reference. No condition. -/
import Derived.Test.YtphfiekhpicpgaaRows
import Derived.Test.YtphfiekhpicpgaaKit
namespace Go.Proofs.Ytphfiekhpicpgaa
open Go.RowKit
def inB (n lo hi : Int) : Bool := decide (lo ≤ n) && decide (n ≤ hi)
theorem inB_true {n lo hi : Int} (h1 : lo ≤ n) (h2 : n ≤ hi) : inB n lo hi = true := by simp [inB, h1, h2]
theorem inB_false {n lo hi : Int} (h : n < lo ∨ hi < n) : inB n lo hi = false := by
  unfold inB
  rcases h with h | h
  · rw [decide_eq_false (by omega)]; rfl
  · rw [decide_eq_false (p := n ≤ hi) (by omega), Bool.and_false]
set_option maxHeartbeats 400000 in
theorem l01In (n lo hi : Int) (w : World) :
    Calls Try.prog 57 #[.int .i64 n, .int .i64 lo, .int .i64 hi] w fun e w' => e = .returned (.bool (inB n lo hi)) ∧ w' = w := by
  by_cases h1 : lo ≤ n
  · by_cases h2 : n ≤ hi
    · have hr := inB_true h1 h2
      have Hr := Lib.hid hr; clear hr
      go_enter Try.func57, Try.ntmps57
      go_wp2
      go_ret
      exact ⟨ret_bool Hr.out.symm, rfl⟩
    · have h2' : hi < n := by omega
      have hr := inB_false (n := n) (lo := lo) (.inr h2')
      have Hr := Lib.hid hr; clear hr
      go_enter Try.func57, Try.ntmps57
      go_wp2
      go_ret
      exact ⟨ret_bool Hr.out.symm, rfl⟩
  · have h1' : n < lo := by omega
    have hr := inB_false (n := n) (hi := hi) (.inl h1')
    have Hr := Lib.hid hr; clear hr
    go_enter Try.func57, Try.ntmps57
    go_wp2
    go_ret
    exact ⟨ret_bool Hr.out.symm, rfl⟩
set_option maxHeartbeats 400000 in
theorem inRange (n lo hi : Int) (w : World) :
    Calls Try.prog 54 #[.int .i64 n, .int .i64 lo, .int .i64 hi] w fun e w' => e = .returned (.bool (inB n lo hi)) ∧ w' = w := by
  by_cases h1 : lo ≤ n
  · by_cases h2 : n ≤ hi
    · have hr := inB_true h1 h2
      have Hr := Lib.hid hr; clear hr
      go_enter Try.func54, Try.ntmps54
      go_wp2
      go_ret
      exact ⟨ret_bool Hr.out.symm, rfl⟩
    · have h2' : hi < n := by omega
      have hr := inB_false (n := n) (lo := lo) (.inr h2')
      have Hr := Lib.hid hr; clear hr
      go_enter Try.func54, Try.ntmps54
      go_wp2
      go_ret
      exact ⟨ret_bool Hr.out.symm, rfl⟩
  · have h1' : n < lo := by omega
    have hr := inB_false (n := n) (hi := hi) (.inl h1')
    have Hr := Lib.hid hr; clear hr
    go_enter Try.func54, Try.ntmps54
    go_wp2
    go_ret
    exact ⟨ret_bool Hr.out.symm, rfl⟩
end Go.Proofs.Ytphfiekhpicpgaa
