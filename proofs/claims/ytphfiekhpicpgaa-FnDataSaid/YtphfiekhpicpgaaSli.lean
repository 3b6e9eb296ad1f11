/- Slices of own rows, as functions of the place. No program, no condition. -/
import Derived.Test.YtphfiekhpicpgaaKit
import Derived.OwnWalk
import Derived.Laws.OwnMore
import Derived.Deep.Onto
namespace Go.Proofs.Ytphfiekhpicpgaa
open Go.RowKit
/-- The value v is a slice of n cells of the element type e, alone in a block from B on, whose cells f gives. -/
def RowF (w : World) (B : Nat) (e : TypeId) (v : Value) (n : Nat) (f : Nat → Value) : Prop := w.ownsRow B e 1 v n ((List.range n).map f)
section
variable {w w' : World} {B : Nat} {e : TypeId} {v : Value} {n : Nat} {f : Nat → Value}
theorem RowF.form (h : RowF w B e v n f) : ∃ a cap, v = .slice a n cap ∧ n ≤ cap ∧ cap ≤ maxLen ∧ (n = 0 ∨ ∃ g, a = some ⟨g, 0, none⟩ ∧ B ≤ g ∧ g < w.heap.size) := by
  rcases h.2 with ⟨rfl, rfl⟩ | ⟨g, cap, cur, rfl, hb, hg, hnc, hcm, _⟩
  · exact ⟨none, 0, rfl, Nat.le_refl _, Nat.zero_le _, .inl rfl⟩
  · exact ⟨_, cap, rfl, hnc, hcm, .inr ⟨g, rfl, hb, (Array.getElem?_eq_some_iff.1 hg).1⟩⟩
theorem RowF.at_ {g cap : Nat} (h : RowF w B e (.slice (some ⟨g, 0, none⟩) n cap) n f) {i : Nat} (hi : i < n) : w.cell? ⟨g, i, none⟩ = some (f i) := by
  rw [World.ownsRow.cellAt h i (by omega)]
  simp [hi]
theorem RowF.fz {g cap : Nat} (h : RowF w B e (.slice (some ⟨g, 0, none⟩) n cap) n f) (i : Nat) : w.frozen? ⟨g, i, none⟩ = false := World.ownsRow.frozenAt h i
theorem map_range_set (f : Nat → Value) (n i : Nat) (u : Value) : ((List.range n).map f).set i u = (List.range n).map (upd f i u) := by
  apply List.ext_getElem?
  intro j
  rw [List.getElem?_set]
  by_cases hj : j < n
  · by_cases h : i = j
    · subst h; simp [hj, upd]
    · simp [hj, h, upd, Ne.symm h]
  · by_cases h : i = j
    · subst h; simp [hj]
    · simp [hj, h]
theorem RowF.put {g cap : Nat} (h : RowF w B e (.slice (some ⟨g, 0, none⟩) n cap) n f) (i : Nat) (u : Value) : RowF (w.setCell ⟨g, i, none⟩ u) B e (.slice (some ⟨g, 0, none⟩) n cap) n (upd f i u) := by
  have := (World.ownsRow.stored h i u).1
  unfold RowF
  rw [← map_range_set]
  exact this
theorem RowF.grow {g cap : Nat} (h : RowF w B e (.slice (some ⟨g, 0, none⟩) n cap) n f) (i : Nat) (u : Value) : w.grownBy (w.setCell ⟨g, i, none⟩ u) (some g) := (World.ownsRow.stored h i u).2
theorem RowF.congr {f' : Nat → Value} (h : RowF w B e v n f) (hf : ∀ i, i < n → f i = f' i) : RowF w B e v n f' := by
  unfold RowF at h ⊢
  have : (List.range n).map f' = (List.range n).map f := List.map_congr_left fun i hi => (hf i (List.mem_range.1 hi)).symm
  rw [this]
  exact h
theorem RowF.kept {row : Option Nat} (h : RowF w B e v n f) (hg : w.grownBy w' row) (hne : v.ownBlock = none ∨ v.ownBlock ≠ row) : RowF w' B e v n f := World.ownsRow.kept h hg hne
theorem RowF.drewN (h : RowF w B e v n f) (k : Nat) : RowF (w.drewN k) B e v n f := h
theorem RowF.drew (h : RowF w B e v n f) : RowF w.drew B e v n f := h
theorem RowF.alloc (h : RowF w B e v n f) (o : Obj) : RowF (w.alloc o) B e v n f := World.ownsRow.alloc h o
theorem RowF.lt (h : RowF w B e v n f) : ∀ k, v.ownBlock = some k → B ≤ k ∧ k < w.heap.size := World.ownsRow.lt h
theorem RowF.mono {B' : Nat} (h : RowF w B e v n f) (hb : B' ≤ B) : RowF w B' e v n f := World.ownsRow.mono h hb
theorem RowF.below {C : Nat} (h : RowF w B e v n f) (hb : Below C w w') (hc : w.heap.size ≤ C) : RowF w' B e v n f := by
  refine ⟨h.1, ?_⟩
  rcases h.2 with hn | ⟨g, cap, cur, rfl, hB, hg, rest⟩
  · exact .inl hn
  · refine .inr ⟨g, cap, cur, rfl, hB, ?_, rest⟩
    rw [hb.block g (Nat.lt_of_lt_of_le (Array.getElem?_eq_some_iff.1 hg).1 hc)]
    exact hg
/-- over a call that keeps the blocks below C, where the row lies below -/
theorem RowF.under {C : Nat} (h : RowF w B e v n f) (hb : Below C w w') (hc : ∀ k, v.ownBlock = some k → k < C) : RowF w' B e v n f := by
  refine ⟨h.1, ?_⟩
  rcases h.2 with hn | ⟨g, cap, cur, rfl, hB, hg, rest⟩
  · exact .inl hn
  · refine .inr ⟨g, cap, cur, rfl, hB, ?_, rest⟩
    rw [hb.block g (hc g rfl)]
    exact hg
theorem RowF.far (h : RowF w B e v n f) {p : Addr} (hp : v.ownBlock ≠ some p.block) (u : Value) : RowF (w.setCell p u) B e v n f := by
  refine ⟨h.1, ?_⟩
  rcases h.2 with hn | ⟨g, cap, cur, rfl, hB, hg, rest⟩
  · exact .inl hn
  · refine .inr ⟨g, cap, cur, rfl, hB, ?_, rest⟩
    rw [heap_setCell_other w p g u (fun e => hp (by rw [← e]; rfl))]
    exact hg
theorem below_grown {C : Nat} {w0 w w' : World} {row : Option Nat} (h : Below C w0 w) (hg : w.grownBy w' row) (hC : C ≤ w.heap.size) (hr : ∀ k, row = some k → C ≤ k) : Below C w0 w' :=
  ⟨hg.os.trans h.os, hg.tape.trans h.tape, hg.output.trans h.output, Nat.le_trans h.size hg.size, fun k hk => (hg.block k (by omega) (fun e => by have := hr k e.symm; omega)).trans (h.block k hk)⟩
theorem row_list {α : Type} (l : List α) (F : α → Value) (d : α) : (List.range l.length).map (fun i => F (l.getD i d)) = l.map F := by
  apply List.ext_getElem?
  intro j
  by_cases hj : j < l.length
  · simp [hj]
  · simp [hj]
theorem RowF.ofList {α : Type} {l : List α} {F : α → Value} (d : α) (h : w.ownsRow B e 1 v l.length (l.map F)) : RowF w B e v l.length (fun i => F (l.getD i d)) := by
  unfold RowF
  rw [row_list]
  exact h
end
/-- A slice of own longs, as a list. -/
def LL (w : World) (B : Nat) (e : TypeId) (v : Value) (l : List Int) : Prop := w.ownsRow B e 1 v l.length (l.map fun x => .int .i64 x)
theorem LL.rowF {w : World} {B : Nat} {e : TypeId} {v : Value} {l : List Int} (h : LL w B e v l) : RowF w B e v l.length (fun i => .int .i64 (l.getD i 0)) := RowF.ofList 0 h
theorem LL.lt {w : World} {B : Nat} {e : TypeId} {v : Value} {l : List Int} (h : LL w B e v l) : ∀ k, v.ownBlock = some k → B ≤ k ∧ k < w.heap.size := World.ownsRow.lt h
theorem LL.alloc {w : World} {B : Nat} {e : TypeId} {v : Value} {l : List Int} (h : LL w B e v l) (o : Obj) : LL (w.alloc o) B e v l := World.ownsRow.alloc h o
theorem LL.drewN {w : World} {B : Nat} {e : TypeId} {v : Value} {l : List Int} (h : LL w B e v l) (k : Nat) : LL (w.drewN k) B e v l := h
theorem LL.drew {w : World} {B : Nat} {e : TypeId} {v : Value} {l : List Int} (h : LL w B e v l) : LL w.drew B e v l := h
theorem LL.mono {w : World} {B B' : Nat} {e : TypeId} {v : Value} {l : List Int} (h : LL w B e v l) (hb : B' ≤ B) : LL w B' e v l := World.ownsRow.mono h hb
theorem LL.new {w : World} {B n : Nat} {e : TypeId} (hn : w.heap.size = n) (hb : B ≤ n) : LL (w.alloc (.cells #[] e)) B e (.slice (some ⟨n, 0, none⟩) 0 0) [] := by
  subst hn
  exact World.ownsRow_lit w #[] 0 hb (Nat.zero_le _) rfl
theorem LL.far {w : World} {B : Nat} {e : TypeId} {v : Value} {l : List Int} (h : LL w B e v l) {p : Addr} (hp : v.ownBlock ≠ some p.block) (u : Value) : LL (w.setCell p u) B e v l := by
  refine ⟨h.1, ?_⟩
  rcases h.2 with hn | ⟨g, cap, cur, rfl, hB, hg, rest⟩
  · exact .inl hn
  · refine .inr ⟨g, cap, cur, rfl, hB, ?_, rest⟩
    rw [heap_setCell_other w p g u (fun e => hp (by rw [← e]; rfl))]
    exact hg
section
variable {P : Program} {ops : Array Oper} {rest : List Oper} {o : Oper} {a : Act} {w : World} {Q : Exit → Act → World → Prop}
theorem wpList_appendL (hgd : o.guard = none) (s x : Operand) (t : TypeId) (ho : o.op = .call { callee := .builtin .append, args := #[s, x], argTypes := #[t, t] })
    (B : Nat) (e : TypeId) (i : TypeInfo) (ht : P.underlying t = some (.slice e)) (hi : P.info? e = some i) (hz : i.zero = some (.int .i64 0)) (hsz : i.size = 1) (hby : i.bytes = 8)
    (v : Value) (l : List Int) (hs : a.eval s = v) (hown : LL w B e v l) (g c : Nat) (y : Int) (hx : a.eval x = .slice (some ⟨g, 0, none⟩) 1 c) (hcell : w.cell? ⟨g, 0, none⟩ = some (.int .i64 y))
    (hl : l.length < 1000000) (hB : B ≤ w.heap.size)
    (h : ∀ v' w', LL w' B e v' (l ++ [y]) → w.grownBy w' v.ownBlock → wpList P ops Q rest (a.put o.dst v') w') : wpList P ops Q (o :: rest) a w := by
  refine wpList_append_own w hgd s x t ho B e i (.int .i64 0) 1 8 ht hi hz hsz hby rfl (by decide) v l.length (l.map fun x => .int .i64 x) hs hown ⟨g, 0, none⟩ 1 c [.int .i64 y] hx rfl ?_ ?_ ?_ ?_ hB ?_
  · intro j u hj
    cases j with
    | zero =>
      simp only [List.getElem?_cons_zero, Option.some.injEq] at hj
      subst hj
      exact hcell
    | succ j => simp at hj
  · intro u hu
    simp only [List.mem_singleton] at hu
    subst hu
    rfl
  · unfold maxLen; omega
  · omega
  · intro v' w' h1 h2 _
    refine h v' w' ?_ h2
    unfold LL
    rw [List.map_append, List.length_append]
    exact h1
end
theorem cell_new1 {w : World} {n : Nat} {e : TypeId} {u : Value} (h : w.heap.size = n) : (w.alloc (.cells #[u] e)).cell? ⟨n, 0, none⟩ = some u := (Blk.newAt h).cell 0
section
variable {P : Program} {ops : Array Oper} {rest : List Oper} {o : Oper} {a : Act} {w : World} {Q : Exit → Act → World → Prop}
theorem wpList_makeF (hgd : o.guard = none) (l c : Operand) (t : TypeId) (ho : o.op = Op.makeSlice t l c)
    (B : Nat) (e : TypeId) (i : TypeInfo) (z : Value) (h1 : P.underlying t = some (.slice e)) (h2 : P.info? e = some i) (h3 : i.zero = some z) (h4 : i.size = 1) (h5 : i.bytes ≤ 8) (hzc : z.cells = #[z])
    (n : Nat) (hl : a.eval l = .int .i64 (n : Int)) (hc : a.eval c = .int .i64 (n : Int)) (b3 : n ≤ 35184372088832) (g : Nat) (hg : w.heap.size = g) (b4 : B ≤ g)
    (hK : ∀ w', RowF w' B e (.slice (some ⟨g, 0, none⟩) n n) n (fun _ => z) → w.grownBy w' none → wpList P ops Q rest (a.put o.dst (.slice (some ⟨g, 0, none⟩) n n)) w') :
    wpList P ops Q (o :: rest) a w := by
  subst hg
  refine wpList_make_full w hgd l c t ho B e i z 1 h1 h2 h3 h4 .i64 .i64 n n n hl hc rfl rfl ?_ (by unfold maxLen; omega) b4 ?_
  · calc i.bytes * n ≤ 8 * n := Nat.mul_le_mul_right n h5
      _ ≤ 281474976710656 := by omega
  · intro w' h6 h7
    refine hK w' ?_ h7
    unfold RowF
    rw [hzc, toList_madeCells_one, Nat.mul_one] at h6
    have : (List.range n).map (fun _ => z) = List.replicate n z := by
      apply List.ext_getElem?
      intro j
      by_cases hj : j < n <;> simp [hj]
    rw [this]
    exact h6
end
theorem carryR {w w' : World} {B : Nat} {e : TypeId} {v : Value} {n : Nat} {f : Nat → Value} (h : Hid (RowF w B e v n f)) (hb : Below w.heap.size w w') : Hid (RowF w' B e v n f) := Lib.hid (h.out.below hb (Nat.le_refl _))
theorem rows_apart {w w' : World} {B C n m : Nat} {e e' : TypeId} {v v' : Value} {f g : Nat → Value} (h : RowF w B e v n f) (h' : RowF w' C e' v' m g) (hc : w.heap.size ≤ C) : v.ownBlock = none ∨ v.ownBlock ≠ v'.ownBlock := by
  cases hv : v.ownBlock with
  | none => exact .inl rfl
  | some k =>
    refine .inr fun e => ?_
    have h1 := (h.lt k hv).2
    have h2 := (h'.lt k e.symm).1
    omega
end Go.Proofs.Ytphfiekhpicpgaa
