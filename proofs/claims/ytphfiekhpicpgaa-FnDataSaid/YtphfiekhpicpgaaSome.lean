/- A region that draws its order and whose operations keep a class of worlds; each value is known by a property. No program, no condition. -/
import Derived.Test.YtphfiekhpicpgaaKit
import Derived.Test.YtphfiekhpicpgaaDraw
namespace Go.Proofs.Ytphfiekhpicpgaa
open Go.RowKit
structure SomeInv (ops : Array Oper) (a0 : Act) (V : Nat → Value → World → Prop) (C : World → Prop) (listed : Array Bool) (a : Act) (w : World) : Prop where
  size : listed.size = ops.size
  defers : a.defers = a0.defers
  len : a.tmps.size = a0.tmps.size
  out : ∀ j, (∀ (i : Nat) (o : Oper), ops[i]? = some o → o.dst ≠ some j) → a.tmps.getD j undef = a0.tmps.getD j undef
  got : ∀ (i : Nat) (o : Oper) (d : Nat), ops[i]? = some o → listed.getD i false = true → o.dst = some d → V i (a.tmps.getD d undef) w
  cls : C w
structure SomeCtx (ops : Array Oper) (a0 : Act) (V : Nat → Value → World → Prop) (C : World → Prop) (o : Oper) (a : Act) (w : World) : Prop where
  out : ∀ j, (∀ (i : Nat) (o : Oper), ops[i]? = some o → o.dst ≠ some j) → a.tmps.getD j undef = a0.tmps.getD j undef
  got : ∀ e ∈ o.after, ∀ (p : Oper) (d : Nat), Region.binds .any e = true → ops[e.on]? = some p → p.dst = some d → V e.on (a.tmps.getD d undef) w
  cls : C w
def someL (ops : Array Oper) (vals : Nat → Value) : List (Option Tmp × Value) := (List.range ops.size).map fun i => ((ops[i]?).bind (·.dst), vals i)
theorem someL_mem {ops : Array Oper} {vals : Nat → Value} {j : Nat} {v : Value} (h : (some j, v) ∈ someL ops vals) : ∃ (i : Nat) (o : Oper), ops[i]? = some o ∧ o.dst = some j ∧ v = vals i := by
  obtain ⟨i, hi, e⟩ := List.mem_map.1 h
  obtain ⟨e1, e2⟩ := Prod.mk.inj e
  cases ho : ops[i]? with
  | none => rw [ho] at e1; cases e1
  | some o => rw [ho] at e1; exact ⟨i, o, ho, e1, e2.symm⟩
theorem wp_region_some {P : Program} {id : Nat} {ops : Array Oper} {Q : Exit → Act → World → Prop} {a0 : Act} {w0 : World} (hm : P.follows .mixedOrders = true)
    (V : Nat → Value → World → Prop) (C : World → Prop) (E : World → World → Prop) (hE : ∀ i v w w', E w w' → V i v w → V i v w')
    (hok : dstOK ops a0.tmps.size = true) (hlex : lexAny ops = true) (hgd : (ops.all fun o => o.guard.isNone) = true) (hC : C w0.drew)
    (hop : Each (fun i o => ∀ a w, SomeCtx ops a0 V C o a w → o.wp P a w (fun a' w' => ∃ v, a' = a.put o.dst v ∧ V i v w' ∧ C w' ∧ E w w') Q) 0 ops.toList)
    (L : (Nat → Value) → List (Option Tmp × Value)) (hL : ∀ vals, someL ops vals = L vals)
    (fin : ∀ (vals : Nat → Value) (w : World), (∀ i d, ((ops[i]?).bind (·.dst)) = some d → V i (vals i) w) → C w → Q .normal (putAll a0 (L vals)) w) : (Code.region id ops true).wp P Q a0 w0 := by
  have hop : ∀ (i : Nat) (o : Oper), ops[i]? = some o → ∀ a w, SomeCtx ops a0 V C o a w → o.wp P a w (fun a' w' => ∃ v, a' = a.put o.dst v ∧ V i v w' ∧ C w' ∧ E w w') Q := fun i o ho => by
    have := each_get ops.toList 0 hop i o (by simpa using ho)
    rwa [Nat.zero_add] at this
  have hgd : ∀ (i : Nat) (o : Oper), ops[i]? = some o → o.guard = none := fun i o ho => by
    have h1 := Array.all_eq_true_iff_forall_mem.1 hgd o (Array.mem_of_getElem? ho)
    exact Option.isNone_iff_eq_none.1 h1
  refine wp_region_inv (SomeInv ops a0 V C) hm ?_ ?_ ?_
  · have hf : ∀ i, ¬ (Array.replicate ops.size false).getD i false = true := fun i => by
      rw [Array.getD_eq_getD_getElem?, Array.getElem?_replicate]
      split <;> simp
    exact { size := by simp, defers := rfl, len := rfl, out := fun _ _ => rfl, got := fun i o d _ hl => absurd hl (hf i), cls := hC }
  · intro listed a w hI i o ho hun hall
    have hi : i < ops.size := (Array.getElem?_eq_some_iff.1 ho).1
    have hil : i < listed.size := by rw [hI.size]; exact hi
    have hctx : SomeCtx ops a0 V C o a w := { out := hI.out, got := fun e he p d hb hp hd => hI.got _ p d hp (hall e he hb) hd, cls := hI.cls }
    refine wpOp_of ho (by simp [Region.wanted, hgd i o ho]) ?_
    have hlt : ∀ k, o.dst = some k → k < a.tmps.size := fun k hk => by rw [hI.len]; exact dstOK_lt hok ho hk
    refine Oper.wp_mono (fun a' w' hh => ?_) (hop i o ho a w hctx)
    obtain ⟨v, rfl, hv, hc, he⟩ := hh
    refine { size := by simp [hI.size], defers := by rw [put_defers]; exact hI.defers, len := by rw [put_size]; exact hI.len, out := fun j hj => ?_, got := fun k p d hp hl hd => ?_, cls := hc }
    · rw [put_tmps _ _ _ _ hlt, if_neg (hj _ o ho)]
      exact hI.out j hj
    · rw [put_tmps _ _ _ _ hlt]
      rw [getD_set_bool hil] at hl
      by_cases hk : i = k
      · subst hk
        obtain rfl : p = o := Option.some.inj (hp.symm.trans ho)
        rw [if_pos hd]
        exact hv
      · rw [decide_eq_false hk, Bool.false_or] at hl
        rw [if_neg (fun e => hk (dstOK_eq hok ho e hp hd))]
        exact hE _ _ _ _ he (hI.got k p d hp hl hd)
  · intro listed a w hI hr
    have hl := all_any hI.size hlex hr
    obtain ⟨vals, hvals⟩ : ∃ vals : Nat → Value, ∀ i d, ((ops[i]?).bind (·.dst)) = some d → a.tmps.getD d undef = vals i := by
      refine ⟨fun i => match (ops[i]?).bind (·.dst) with | some d => a.tmps.getD d undef | none => undef, fun i d h => ?_⟩
      simp only [h]
    have hgot : ∀ i d, ((ops[i]?).bind (·.dst)) = some d → V i (vals i) w := fun i d h => by
      cases ho : ops[i]? with
      | none => rw [ho] at h; cases h
      | some o =>
        have h2 := h
        rw [ho] at h2
        have hi : i < ops.size := (Array.getElem?_eq_some_iff.1 ho).1
        rw [← hvals i d h]
        exact hI.got i o d ho (hl i hi) h2
    have ha : a = putAll a0 (someL ops vals) := by
      have hcons : ∀ j v v', (some j, v) ∈ someL ops vals → (some j, v') ∈ someL ops vals → v = v' := fun j v v' h1 h2 => by
        obtain ⟨i, o, ho, hd, rfl⟩ := someL_mem h1
        obtain ⟨i', o', ho', hd', rfl⟩ := someL_mem h2
        rw [dstOK_eq hok ho hd ho' hd']
      have hlt : ∀ k v, (some k, v) ∈ someL ops vals → k < a0.tmps.size := fun k v h1 => by
        obtain ⟨i, o, ho, hd, rfl⟩ := someL_mem h1
        exact dstOK_lt hok ho hd
      refine act_ext (by rw [putAll_defers]; exact hI.defers) (by rw [putAll_size]; exact hI.len) fun j => ?_
      have hp := putAll_get (someL ops vals) a0 j hlt (hcons j)
      by_cases hj : ∃ (i : Nat) (o : Oper), ops[i]? = some o ∧ o.dst = some j
      · obtain ⟨i, o, ho, hd⟩ := hj
        have hi : i < ops.size := (Array.getElem?_eq_some_iff.1 ho).1
        have hmem : (some j, vals i) ∈ someL ops vals := List.mem_map.2 ⟨i, List.mem_range.2 hi, by rw [ho]; exact Prod.ext hd rfl⟩
        rw [hp.1 _ hmem]
        exact hvals i j (by rw [ho]; exact hd)
      · have hn : ∀ (i : Nat) (o : Oper), ops[i]? = some o → o.dst ≠ some j := fun i o ho hd => hj ⟨i, o, ho, hd⟩
        rw [hI.out j hn, hp.2 fun v h1 => ?_]
        obtain ⟨i, o, ho, hd, _⟩ := someL_mem h1
        exact hn i o ho hd
    rw [ha, hL]
    exact fin vals w hgot hI.cls
section
variable {ops : Array Oper} {a0 a : Act} {w0 w : World} {V : Nat → Value → World → Prop} {C : World → Prop} {o : Oper} {P : Program} {Q : Exit → Act → World → Prop}
theorem SomeCtx.old (h : SomeCtx ops a0 V C o a w) (j : Nat) (hj : noDst ops j = true) : a.eval (.tmp j) = a0.tmps.getD j undef :=
  h.out j fun i o ho => by
    have h1 := Array.all_eq_true_iff_forall_mem.1 hj o (Array.mem_of_getElem? ho)
    simpa using h1
theorem SomeCtx.new (h : SomeCtx ops a0 V C o a w) (d k : Nat) (hk : (o.after.any fun e => decide (e.on = k) && Region.binds .any e) = true) (hd : ((ops[k]?).bind (·.dst)) = some d) : V k (a.eval (.tmp d)) w := by
  obtain ⟨i, hi, h1⟩ := Array.any_eq_true.1 hk
  rw [Bool.and_eq_true, decide_eq_true_eq] at h1
  cases hp : ops[k]? with
  | none => rw [hp] at hd; cases hd
  | some p =>
    rw [hp] at hd
    obtain ⟨h2, h3⟩ := h1
    subst h2
    exact h.got _ (Array.getElem_mem hi) p d h3 hp hd
theorem eval_tmp (a : Act) (j : Nat) : a.tmps[j]?.getD undef = a.eval (.tmp j) := by
  show _ = a.tmps.getD j undef
  rw [Array.getD_eq_getD_getElem?]
variable {i : Nat} {E : World → World → Prop}
theorem some_val (v : Value) (hr : (execOp a.eval o).run P w = .ok (.value v) w) (hv : V i v w) (hc : C w) (hE : E w w) : o.wp P a w (fun a' w' => ∃ v, a' = a.put o.dst v ∧ V i v w' ∧ C w' ∧ E w w') Q := by
  unfold Oper.wp
  rw [hr, Oper.upon_value]
  exact ⟨v, rfl, hv, hc, hE⟩
theorem some_to {w1 : World} (v : Value) (hr : (execOp a.eval o).run P w = .ok (.value v) w1) (hv : V i v w1) (hc : C w1) (hE : E w w1) : o.wp P a w (fun a' w' => ∃ v, a' = a.put o.dst v ∧ V i v w' ∧ C w' ∧ E w w') Q := by
  unfold Oper.wp
  rw [hr, Oper.upon_value]
  exact ⟨v, rfl, hv, hc, hE⟩
theorem some_call (f : FuncId) (xs : Array Operand) (ts : Array TypeId) (ho : o.op = .call { callee := .value (.func f), args := xs, argTypes := ts }) {args : Array Value} (hargs : xs.map a.eval = args)
    (hcf : ∀ w : World, (callFunc f args).run P w = .ok (.enter f args) w) (h : Calls P f args w fun e w' => ∃ v, e = .returned v ∧ V i v w' ∧ C w' ∧ E w w') :
    o.wp P a w (fun a' w' => ∃ v, a' = a.put o.dst v ∧ V i v w' ∧ C w' ∧ E w w') Q := by
  subst hargs
  have hr : (execOp a.eval o).run P w = .ok (.enter f (xs.map a.eval)) w := by
    unfold execOp
    simp only [ho]
    have := hcf w
    first | exact this | simpa [go_sem] using this
  unfold Oper.wp
  rw [hr, Oper.upon_enter]
  refine h.mono fun e w' he => ?_
  obtain ⟨v, rfl, hv⟩ := he
  exact ⟨v, rfl, hv⟩
end
end Go.Proofs.Ytphfiekhpicpgaa
