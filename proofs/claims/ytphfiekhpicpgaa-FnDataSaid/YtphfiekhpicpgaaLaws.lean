/- Contracts of the helpers of the laws: copies of arrays, and that an array equals itself. No condition. -/
import Derived.Test.YtphfiekhpicpgaaTypes
namespace Go.Proofs.Ytphfiekhpicpgaa
open Go.RowKit
end Go.Proofs.Ytphfiekhpicpgaa
