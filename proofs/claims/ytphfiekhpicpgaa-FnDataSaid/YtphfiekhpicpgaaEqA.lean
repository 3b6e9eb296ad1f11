/- A row of bytes equals itself, as the program compares arrays. No condition. -/
import Derived.Test.YtphfiekhpicpgaaRows
import Derived.Test.YtphfiekhpicpgaaKit
import Derived.ChangeKeysEq
import Derived.Laws.StructEq
namespace Go.Proofs.Ytphfiekhpicpgaa
open Go.RowKit
theorem eqItems_same {P : Program} (w : World) (d : Nat) {e : TypeId} (hp : P.plainKey e = true) (he : P.underlying e = some (.int .u8)) {n : Nat} (f : Nat → UInt8) : ∀ is : List Nat, (∀ i ∈ is, i < n) →
    (Op.eqItems (d + 1) e 1 (byteRow n f) (byteRow n f) is).run P w = .ok true w
  | [], _ => by simp [Op.eqItems]
  | i :: is, h => by
    have hi := h i (.head _)
    have hp1 := run_part_plain (w := w) hp (xs := byteRow n f) (off := i * 1) (v := .int .u8 ((f i).toNat : Int)) (by rw [Nat.mul_one]; exact byteRow_at _ hi)
    unfold Op.eqItems
    simp only [Sem.run_bind, hp1, Result.andThen_ok, run_equalIn_int w d e .u8 .u8 _ _ he, beq_self_eq_true, Bool.not_true, Bool.false_eq_true, if_false]
    exact eqItems_same w d hp he f is fun j hj => h j (.tail _ hj)
theorem eq_same {P : Program} {t e : TypeId} {n : Nat} {i : TypeInfo} (ht : P.underlying t = some (.array n e)) (hi : P.info? e = some i) (hp : P.plainKey e = true) (he : P.underlying e = some (.int .u8)) (hc : P.cellsOf e = 1) (f : Nat → UInt8) (w : World) :
    (Op.equalIn 10000 t (.agg (byteRow n f)) (.agg (byteRow n f))).run P w = .ok true w := by
  rw [run_equalIn_array w 9999 _ _ ht hi, hc]
  exact eqItems_same w 9998 hp he f _ fun j hj => List.mem_range.1 hj
section
variable {P : Program} {ops : Array Oper} {rest : List Oper} {o : Oper} {a : Act} {w : World} {Q : Exit → Act → World → Prop}
theorem exec_neqU (ty : TypeId) (x y : Operand) (k : TypeId) (ho : o.op = .binOp .neq ty x y k) {U : Array Value} (hx : a.eval x = .agg U) (hy : a.eval y = .agg U) (hg : P.eqGuardType P.depth ty = false)
    (q : ∀ w : World, (Op.equalIn 10000 ty (.agg U) (.agg U)).run P w = .ok true w) (w : World) : (execOp a.eval o).run P w = .ok (.value (.bool false)) w := by
  have hb : (binOp .neq ty (.agg U) (.agg U)).run P w = .ok (.bool false) w := by simp [binOp, Op.equal, Op.maxDepth, q w]
  have he := run_eqGuard_agg (P := P) (w := w) .neq ty x y U U hg
  unfold execOp
  simp only [ho, hx, hy, Sem.run_bind, he, hb, Result.andThen_ok, Sem.run_pure]
theorem wpList_neqU (hw : Region.wanted o (yielded ops a.tmps) = true) (ty : TypeId) (x y : Operand) (k : TypeId) (ho : o.op = .binOp .neq ty x y k) {U : Array Value} (hx : a.eval x = .agg U) (hy : a.eval y = .agg U) (hg : P.eqGuardType P.depth ty = false)
    (q : ∀ w : World, (Op.equalIn 10000 ty (.agg U) (.agg U)).run P w = .ok true w) (h : wpList P ops Q rest (a.put o.dst (.bool false)) w) : wpList P ops Q (o :: rest) a w :=
  wpList_step fun K hK => by
    rw [if_pos hw]
    unfold Oper.wp
    rw [exec_neqU ty x y k ho hx hy hg q w, Oper.upon_value]
    exact hK _ _ h
end
set_option maxRecDepth 100000 in
theorem eqBoxA (f : Nat → UInt8) (w : World) : (Op.equalIn 10000 27 (.agg (byteRow 256 f)) (.agg (byteRow 256 f))).run Try.prog w = .ok true w := by
  have hi : ∃ i, Try.prog.info? 5 = some i := ⟨_, rfl⟩
  obtain ⟨i, hi⟩ := hi
  exact eq_same Try.underlying27 hi (by kernel_rfl) Try.underlying5 (by kernel_rfl) f w
set_option maxRecDepth 100000 in
theorem guardBox : Try.prog.eqGuardType Try.prog.depth 27 = false := by kernel_rfl
set_option maxRecDepth 100000 in
theorem eqBlockA (f : Nat → UInt8) (w : World) : (Op.equalIn 10000 55 (.agg (byteRow 16 f)) (.agg (byteRow 16 f))).run Try.prog w = .ok true w := by
  have hi : ∃ i, Try.prog.info? 5 = some i := ⟨_, rfl⟩
  obtain ⟨i, hi⟩ := hi
  exact eq_same Try.underlying55 hi (by kernel_rfl) Try.underlying5 (by kernel_rfl) f w
set_option maxRecDepth 100000 in
theorem guardBlock : Try.prog.eqGuardType Try.prog.depth 55 = false := by kernel_rfl
end Go.Proofs.Ytphfiekhpicpgaa
