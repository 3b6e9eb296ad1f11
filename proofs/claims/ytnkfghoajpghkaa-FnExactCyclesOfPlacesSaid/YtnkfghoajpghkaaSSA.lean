/- A slice value appended to a row of slices. No condition. -/
import Derived.Test.YtnkfghoajpghkaaRows
import Derived.Test.YtnkfghoajpghkaaSS
set_option linter.unusedVariables false
namespace Go.Proofs.Ytnkfghoajpghkaa
open Go.RowKit
section
variable {P : Program} {ops : Array Oper} {rest : List Oper} {o : Oper} {a : Act} {w : World} {Q : Exit → Act → World → Prop}
theorem wpList_appendV (hgd : o.guard = none) (s x : Operand) (t : TypeId) (ho : o.op = .call { callee := .builtin .append, args := #[s, x], argTypes := #[t, t] })
    (B : Nat) (e : TypeId) (i : TypeInfo) (z : Value) (ht : P.underlying t = some (.slice e)) (hi : P.info? e = some i) (hz : i.zero = some z) (hzc : z.cells.size = 1) (hsz : i.size = 1) (hby : i.bytes = 24)
    (v : Value) (n : Nat) (vals : Nat → Value) (hs : a.eval s = v) (hown : RowF w B e v n vals) (g c : Nat) (u : Value) (hx : a.eval x = .slice (some ⟨g, 0, none⟩) 1 c) (hcell : w.cell? ⟨g, 0, none⟩ = some u) (hu : u.oneCell' = true)
    (hl : n < 1000000) (hB : B ≤ w.heap.size)
    (h : ∀ v' w', RowF w' B e v' (n + 1) (upd vals n u) → w.grownBy w' v.ownBlock → wpList P ops Q rest (a.put o.dst v') w') : wpList P ops Q (o :: rest) a w := by
  refine wpList_append_own w hgd s x t ho B e i z 1 24 ht hi hz hsz hby hzc (by decide) v n ((List.range n).map vals) hs hown ⟨g, 0, none⟩ 1 c [u] hx rfl ?_ ?_ ?_ ?_ hB ?_
  · intro j y hj
    cases j with
    | zero =>
      simp only [List.getElem?_cons_zero, Option.some.injEq] at hj
      subst hj
      exact hcell
    | succ j => simp at hj
  · intro y hy
    simp only [List.mem_singleton] at hy
    subst hy
    exact hu
  · unfold maxLen; omega
  · omega
  · intro v' w' h1 h2 _
    refine h v' w' ?_ h2
    unfold RowF
    have e : (List.range (n + 1)).map (upd vals n u) = (List.range n).map vals ++ [u] := by
      rw [List.range_succ, List.map_append]
      congr 1
      · exact List.map_congr_left fun j hj => upd_other _ _ (by have := List.mem_range.1 hj; omega)
      · show [upd vals n u n] = [u]
        rw [upd_same]
    rw [e]
    exact h1
end
end Go.Proofs.Ytnkfghoajpghkaa
