/- Contracts: permutations of 256 values, and their inverses, by the program and by the reference. No condition. -/
import Derived.Test.YtnkfghoajpghkaaTypes
import Derived.Test.YtnkfghoajpghkaaPlain
namespace Go.Proofs.Ytnkfghoajpghkaa
open Go.RowKit Plain
theorem sizeU1 : (Try.prog.info? 5).map (·.size) = some 1 := by kernel_rfl
theorem metRow_put {w : World} {g t n : Nat} {b : Nat → UInt8} {k : Nat} (h : Blk w g t (boolRow n (metB b k))) :
    Blk (w.setCell ⟨g, (b k).toNat, none⟩ (.bool true)) g t (boolRow n (metB b (k + 1))) :=
  (h.boolPut _ true).eq_ (boolRow_congr fun i _ => by
    unfold upd
    by_cases hi : i = (b k).toNat
    · subst hi; simp [metB]
    · have hi' : ¬ (b k).toNat = i := fun e => hi e.symm
      simp [hi, hi', metB])
end Go.Proofs.Ytnkfghoajpghkaa
