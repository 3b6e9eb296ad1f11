/- Contracts of the laws' helpers on slices of blocks: equality, marks, and whether they hold. No condition. -/
import Derived.Test.YtphfiekhpicpgaaRows
import Derived.Test.YtphfiekhpicpgaaLaws
import Derived.Test.YtphfiekhpicpgaaSliB
set_option linter.unusedVariables false
namespace Go.Proofs.Ytphfiekhpicpgaa
open Go.RowKit
theorem mark_step {q0 k : Nat} (f : Nat → UInt8) : upd (fun i => if i < k then UInt8.ofNat (q0 + i) else f i) k (UInt8.ofNat (q0 + k)) = fun i => if i < k + 1 then UInt8.ofNat (q0 + i) else f i := by
  funext i
  unfold upd
  by_cases h : i = k
  · subst h; simp
  · by_cases h2 : i < k
    · simp [h, h2, show i < k + 1 by omega]
    · simp [h, h2, show ¬ i < k + 1 by omega]
end Go.Proofs.Ytphfiekhpicpgaa
