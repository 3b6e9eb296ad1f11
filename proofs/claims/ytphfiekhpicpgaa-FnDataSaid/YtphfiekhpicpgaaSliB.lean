/- Slices of own blocks of 16 bytes, as functions of the byte's place. No condition. -/
import Derived.Test.YtphfiekhpicpgaaRows
import Derived.Test.YtphfiekhpicpgaaSlices
set_option linter.unusedVariables false
namespace Go.Proofs.Ytphfiekhpicpgaa
open Go.RowKit
/-- The value v is a slice of n blocks of 16 bytes, alone in a block of memory from B on, whose bytes b gives. -/
def RowB (w : World) (B : Nat) (e : TypeId) (v : Value) (n : Nat) (b : Nat → UInt8) : Prop := w.ownsRow B e 16 v n ((List.range (n * 16)).map (byt b))
section
variable {w w' : World} {B : Nat} {e : TypeId} {v : Value} {n : Nat} {b : Nat → UInt8}
theorem RowB.form (h : RowB w B e v n b) : ∃ a cap, v = .slice a n cap ∧ n ≤ cap ∧ cap ≤ maxLen ∧ (n = 0 ∨ ∃ g, a = some ⟨g, 0, none⟩ ∧ B ≤ g ∧ g < w.heap.size) := by
  rcases h.2 with ⟨rfl, rfl⟩ | ⟨g, cap, cur, rfl, hb, hg, hnc, hcm, _⟩
  · exact ⟨none, 0, rfl, Nat.le_refl _, Nat.zero_le _, .inl rfl⟩
  · exact ⟨_, cap, rfl, hnc, hcm, .inr ⟨g, rfl, hb, (Array.getElem?_eq_some_iff.1 hg).1⟩⟩
theorem RowB.at_ {g cap : Nat} (h : RowB w B e (.slice (some ⟨g, 0, none⟩) n cap) n b) {i : Nat} (hi : i < n * 16) : w.cell? ⟨g, i, none⟩ = some (.int .u8 ((b i).toNat : Int)) := by
  rw [World.ownsRow.cellAt h i hi]
  simp [hi, byt]
theorem RowB.fz {g cap : Nat} (h : RowB w B e (.slice (some ⟨g, 0, none⟩) n cap) n b) (i : Nat) : w.frozen? ⟨g, i, none⟩ = false := World.ownsRow.frozenAt h i
theorem RowB.put {g cap : Nat} (h : RowB w B e (.slice (some ⟨g, 0, none⟩) n cap) n b) (i : Nat) (x : UInt8) : RowB (w.setCell ⟨g, i, none⟩ (.int .u8 (x.toNat : Int))) B e (.slice (some ⟨g, 0, none⟩) n cap) n (upd b i x) := by
  have := (World.ownsRow.stored h i (.int .u8 (x.toNat : Int))).1
  unfold RowB
  rw [← byt_put, ← map_range_set]
  exact this
theorem RowB.grow {g cap : Nat} (h : RowB w B e (.slice (some ⟨g, 0, none⟩) n cap) n b) (i : Nat) (u : Value) : w.grownBy (w.setCell ⟨g, i, none⟩ u) (some g) := (World.ownsRow.stored h i u).2
theorem RowB.congr {c : Nat → UInt8} (h : RowB w B e v n b) (hf : ∀ i, i < n * 16 → b i = c i) : RowB w B e v n c := by
  unfold RowB at h ⊢
  have : (List.range (n * 16)).map (byt c) = (List.range (n * 16)).map (byt b) := List.map_congr_left fun i hi => by unfold byt; rw [hf i (List.mem_range.1 hi)]
  rw [this]
  exact h
theorem RowB.kept {row : Option Nat} (h : RowB w B e v n b) (hg : w.grownBy w' row) (hne : v.ownBlock = none ∨ v.ownBlock ≠ row) : RowB w' B e v n b := World.ownsRow.kept h hg hne
theorem RowB.drewN (h : RowB w B e v n b) (k : Nat) : RowB (w.drewN k) B e v n b := h
theorem RowB.alloc (h : RowB w B e v n b) (o : Obj) : RowB (w.alloc o) B e v n b := World.ownsRow.alloc h o
theorem RowB.lt (h : RowB w B e v n b) : ∀ k, v.ownBlock = some k → B ≤ k ∧ k < w.heap.size := World.ownsRow.lt h
theorem RowB.mono {B' : Nat} (h : RowB w B e v n b) (hb : B' ≤ B) : RowB w B' e v n b := World.ownsRow.mono h hb
theorem RowB.below {C : Nat} (h : RowB w B e v n b) (hb : Below C w w') (hc : w.heap.size ≤ C) : RowB w' B e v n b := by
  refine ⟨h.1, ?_⟩
  rcases h.2 with hn | ⟨g, cap, cur, rfl, hB, hg, rest⟩
  · exact .inl hn
  · refine .inr ⟨g, cap, cur, rfl, hB, ?_, rest⟩
    rw [hb.block g (Nat.lt_of_lt_of_le (Array.getElem?_eq_some_iff.1 hg).1 hc)]
    exact hg
theorem RowB.nil (hn : n = 0) : RowB w B e (.slice none 0 0) n b := by
  subst hn
  exact World.ownsRow_nil w B _ _
theorem RowB.new {m : Nat} (hm : w.heap.size = m) (hb : B ≤ m) : RowB (w.alloc (.cells #[] e)) B e (.slice (some ⟨m, 0, none⟩) 0 0) 0 b := by
  subst hm
  exact World.ownsRow_lit w #[] 0 hb (Nat.zero_le _) rfl
end
theorem carryK {w w' : World} {B : Nat} {e : TypeId} {v : Value} {n : Nat} {b : Nat → UInt8} (h : Hid (RowB w B e v n b)) (hb : Below w.heap.size w w') : Hid (RowB w' B e v n b) := Lib.hid (h.out.below hb (Nat.le_refl _))
theorem row_list_cells (n : Nat) (b : Nat → UInt8) : (byteRow n b).toList = (List.range n).map (byt b) := by
  unfold byteRow rowOf
  rfl
section
variable {P : Program} {ops : Array Oper} {rest : List Oper} {o : Oper} {a : Act} {w : World} {Q : Exit → Act → World → Prop}
theorem wpList_loadC (hgd : o.guard = none) (ty : TypeId) (x : Operand) (ho : o.op = .load ty x)
    (g q : Nat) (hx : a.eval x = .pointer (some ⟨g, q, none⟩)) (n : Nat) (b : Nat → UInt8) {d : TypeDesc} (hc : ∀ i, i < n → w.cell? ⟨g, q + i, none⟩ = some (.int .u8 ((b i).toNat : Int)))
    (hu : P.underlying ty = some d) (hd : d.isRow = true) (hi : (P.info? ty).map (·.size) = some n)
    (h : wpList P ops Q rest (a.put o.dst (.agg (byteRow n b))) w) : wpList P ops Q (o :: rest) a w := by
  refine wpList_load_mid hgd ty x ho g q hx (byteRow n b).toList d (fun j v hv => ?_) hu hd (by rw [hi]; simp [byteRow_size]) h
  have hv' : (byteRow n b)[j]? = some v := by simpa using hv
  have hj : j < n := by
    have := (Array.getElem?_eq_some_iff.1 hv').1
    rwa [byteRow_size] at this
  rw [byteRow_at _ hj] at hv'
  rw [hc j hj]
  exact hv'
theorem wpList_appendK (hgd : o.guard = none) (s x : Operand) (t : TypeId) (ho : o.op = .call { callee := .builtin .append, args := #[s, x], argTypes := #[t, t] })
    (B : Nat) (e : TypeId) (i : TypeInfo) (z : Value) (ht : P.underlying t = some (.slice e)) (hi : P.info? e = some i) (hz : i.zero = some z) (hzc : z.cells.size = 16) (hsz : i.size = 16) (hby : i.bytes = 16)
    (v : Value) (k : Nat) (b : Nat → UInt8) (hs : a.eval s = v) (hown : RowB w B e v k b) (g c : Nat) (hx : a.eval x = .slice (some ⟨g, 0, none⟩) 1 c)
    (hcell : ∀ j, j < 16 → w.cell? ⟨g, j, none⟩ = some (.int .u8 ((b (k * 16 + j)).toNat : Int)))
    (hl : k < 1000000) (hB : B ≤ w.heap.size)
    (h : ∀ v' w', RowB w' B e v' (k + 1) b → w.grownBy w' v.ownBlock → wpList P ops Q rest (a.put o.dst v') w') : wpList P ops Q (o :: rest) a w := by
  refine wpList_append_own w hgd s x t ho B e i z 16 16 ht hi hz hsz hby hzc (by decide) v k ((List.range (k * 16)).map (byt b)) hs hown ⟨g, 0, none⟩ 1 c ((List.range 16).map fun j => byt b (k * 16 + j)) hx (by simp) ?_ ?_ ?_ ?_ hB ?_
  · intro j u hj
    rw [List.getElem?_map] at hj
    by_cases hj16 : j < 16
    · rw [List.getElem?_range hj16] at hj
      obtain rfl : byt b (k * 16 + j) = u := by simpa using hj
      have h0 := hcell j hj16
      unfold Addr.add
      by_cases h00 : j = 0
      · subst h00; simpa [byt] using h0
      · simpa [h00, byt] using h0
    · rw [List.getElem?_eq_none (by simp; omega)] at hj
      cases hj
  · intro u hu
    obtain ⟨j, _, rfl⟩ := List.mem_map.1 hu
    rfl
  · unfold maxLen; omega
  · omega
  · intro v' w' h1 h2 h3
    refine h v' w' ?_ h2
    unfold RowB
    have e1 : (List.range ((k + 1) * 16)).map (byt b) = (List.range (k * 16)).map (byt b) ++ (List.range 16).map fun j => byt b (k * 16 + j) := by
      rw [show (k + 1) * 16 = k * 16 + 16 by omega, List.range_add, List.map_append, List.map_map]
      rfl
    rw [e1]
    exact h1
theorem q_loadC {C : World → Prop} {Q : Act → Prop} (hw : Region.wanted o (yielded ops a.tmps) = true) (ty : TypeId) (x : Operand) (ho : o.op = .load ty x) (g q : Nat) (hx : a.eval x = .pointer (some ⟨g, q, none⟩)) (n : Nat) (b : Nat → UInt8) {d : TypeDesc}
    (hc : ∀ w, C w → ∀ i, i < n → w.cell? ⟨g, q + i, none⟩ = some (.int .u8 ((b i).toNat : Int))) (hu : P.underlying ty = some d) (hd : d.isRow = true) (hi : (P.info? ty).map (·.size) = some n)
    (hk : wpQuiet P ops C Q rest (a.put o.dst (.agg (byteRow n b)))) : wpQuiet P ops C Q (o :: rest) a := by
  refine q_val hw (.agg (byteRow n b)) (fun w hC => ?_) hk
  have hr : w.rangeAt g q (byteRow n b).toList := fun j v hv => by
    have hv' : (byteRow n b)[j]? = some v := by simpa using hv
    have hj : j < n := by
      have := (Array.getElem?_eq_some_iff.1 hv').1
      rwa [byteRow_size] at this
    rw [byteRow_at _ hj] at hv'
    rw [hc w hC j hj]
    exact hv'
  have := run_loadVar_mid (P := P) w g q ty _ d hr hu hd (by rw [hi]; simp [byteRow_size])
  unfold execOp
  simp only [ho, hx, Instr.loadAt, Instr.sureAddr, Sem.run_bind, Sem.run_pure, Result.andThen_ok, this, Array.toArray_toList]
end
end Go.Proofs.Ytphfiekhpicpgaa
