/- A row of bytes equals itself, as the program compares arrays. No condition. -/
import Derived.Test.YtoijoogonajopaaRows
import Derived.Test.YtoijoogonajopaaKit
import Derived.ChangeKeysEq
import Derived.Laws.StructEq
namespace Go.Proofs.Ytoijoogonajopaa
open Go.RowKit
theorem eqItems_same {P : Program} (w : World) (d : Nat) {e : TypeId} (hp : P.plainKey e = true) (he : P.underlying e = some (.int .u8)) {n : Nat} (f : Nat → UInt8) : ∀ is : List Nat, (∀ i ∈ is, i < n) →
    (Op.eqItems (d + 1) e 1 (byteRow n f) (byteRow n f) is).run P w = .ok true w
  | [], _ => by simp [Op.eqItems]
  | i :: is, h => by
    have hi := h i (.head _)
    have hp1 := run_part_plain (w := w) hp (xs := byteRow n f) (off := i * 1) (v := .int .u8 ((f i).toNat : Int)) (by rw [Nat.mul_one]; exact byteRow_at _ hi)
    unfold Op.eqItems
    simp only [Sem.run_bind, hp1, Result.andThen_ok, run_equalIn_int w d e .u8 .u8 _ _ he, beq_self_eq_true, Bool.not_true, Bool.false_eq_true, if_false]
    exact eqItems_same w d hp he f is fun j hj => h j (.tail _ hj)
theorem eq_same {P : Program} {t e : TypeId} {n : Nat} {i : TypeInfo} (ht : P.underlying t = some (.array n e)) (hi : P.info? e = some i) (hp : P.plainKey e = true) (he : P.underlying e = some (.int .u8)) (hc : P.cellsOf e = 1) (f : Nat → UInt8) (w : World) :
    (Op.equalIn 10000 t (.agg (byteRow n f)) (.agg (byteRow n f))).run P w = .ok true w := by
  rw [run_equalIn_array w 9999 _ _ ht hi, hc]
  exact eqItems_same w 9998 hp he f _ fun j hj => List.mem_range.1 hj
theorem eqBoxA (f : Nat → UInt8) (w : World) : (Op.equalIn 10000 25 (.agg (byteRow 256 f)) (.agg (byteRow 256 f))).run Try.prog w = .ok true w := by
  have hi : ∃ i, Try.prog.info? 5 = some i := ⟨_, rfl⟩
  obtain ⟨i, hi⟩ := hi
  exact eq_same Try.underlying25 hi (by kernel_rfl) Try.underlying5 (by kernel_rfl) f w
theorem guardBox : Try.prog.eqGuardType Try.prog.depth 25 = false := by kernel_rfl
end Go.Proofs.Ytoijoogonajopaa
