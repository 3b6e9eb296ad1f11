/- Contracts: the laws' copies of slices that came in. No condition. -/
import Derived.Test.YtphfiekhpicpgaaRows
import Derived.Test.YtphfiekhpicpgaaSlices
namespace Go.Proofs.Ytphfiekhpicpgaa
open Go.RowKit
theorem ByteS.below {w w' : World} {a : Option Addr} {n cap : Nat} {b : Nat → UInt8} (h : ByteS w a n cap b) (hb : Below w.heap.size w w') : ByteS w' a n cap b :=
  ⟨h.1, h.2.1, h.2.2.imp id fun ⟨g, off, e, hg, hc⟩ => ⟨g, off, e, Nat.lt_of_lt_of_le hg hb.size, fun i hi => (hb.cell (p := ⟨g, off + i, none⟩) hg).trans (hc i hi)⟩⟩
theorem LongS.below {w w' : World} {a : Option Addr} {n cap : Nat} {b : Nat → Int} (h : LongS w a n cap b) (hb : Below w.heap.size w w') : LongS w' a n cap b :=
  ⟨h.1, h.2.1, h.2.2.1, h.2.2.2.imp id fun ⟨g, off, e, hg, hc⟩ => ⟨g, off, e, Nat.lt_of_lt_of_le hg hb.size, fun i hi => (hb.cell (p := ⟨g, off + i, none⟩) hg).trans (hc i hi)⟩⟩
end Go.Proofs.Ytphfiekhpicpgaa
