/- Lists of own bytes: appended to, made a string of. No program, no condition. -/
import Derived.Test.YtnkfghoajpghkaaKit
import Derived.Test.YtnkfghoajpghkaaSli
import Derived.StillTailTactics
import Derived.Deep.DeepCutAuto
import Derived.Deep.RegionLaw
import Derived.BigRegion
import Derived.Laws.IdiomStrings
namespace Go.Proofs.Ytnkfghoajpghkaa
open Go.RowKit
theorem addr_add (g j : Nat) : (⟨g, 0, none⟩ : Addr).add j = ⟨g, j, none⟩ := by
  unfold Addr.add
  by_cases hj : j = 0
  · subst hj; simp
  · simp [hj]
def bytV (x : UInt8) : Value := .int .u8 (x.toNat : Int)
/-- A slice of own bytes, not nil, as a list. -/
def LB (w : World) (B : Nat) (e : TypeId) (v : Value) (l : List UInt8) : Prop := (∃ g cap, v = .slice (some ⟨g, 0, none⟩) l.length cap) ∧ w.ownsRow B e 1 v l.length (l.map bytV)
section
variable {w w' : World} {B : Nat} {e : TypeId} {v : Value} {l : List UInt8}
theorem LB.lt (h : LB w B e v l) : ∀ k, v.ownBlock = some k → B ≤ k ∧ k < w.heap.size := World.ownsRow.lt h.2
theorem LB.alloc (h : LB w B e v l) (o : Obj) : LB (w.alloc o) B e v l := ⟨h.1, World.ownsRow.alloc h.2 o⟩
theorem LB.drew (h : LB w B e v l) : LB w.drew B e v l := h
theorem LB.drewN (h : LB w B e v l) (k : Nat) : LB (w.drewN k) B e v l := h
theorem LB.mono {B' : Nat} (h : LB w B e v l) (hb : B' ≤ B) : LB w B' e v l := ⟨h.1, World.ownsRow.mono h.2 hb⟩
theorem LB.new {n : Nat} (hn : w.heap.size = n) (hb : B ≤ n) : LB (w.alloc (.cells #[] e)) B e (.slice (some ⟨n, 0, none⟩) 0 0) [] := by
  subst hn
  exact ⟨⟨_, _, rfl⟩, World.ownsRow_lit w #[] 0 hb (Nat.zero_le _) rfl⟩
theorem LB.rowF (h : LB w B e v l) : RowF w B e v l.length (fun i => bytV (l.getD i 0)) := RowF.ofList 0 h.2
theorem LB.cell {g cap : Nat} (h : LB w B e (.slice (some ⟨g, 0, none⟩) l.length cap) l) : ∀ j (hj : j < l.length), w.cell? ⟨g, 0 + j, none⟩ = some (.int .u8 (l[j].toNat : Int)) := fun j hj => by
  rw [Nat.zero_add, World.ownsRow.cellAt h.2 j (by omega)]
  simp [hj, bytV]
theorem LB.capLe {g cap : Nat} (h : LB w B e (.slice (some ⟨g, 0, none⟩) l.length cap) l) : l.length ≤ cap ∧ cap ≤ 9223372036854775807 := by
  obtain ⟨a, c, e1, h1, h2, _⟩ := h.rowF.form
  injection e1 with _ _ e3
  subst e3
  unfold maxLen at h2
  exact ⟨h1, by omega⟩
end
section
variable {P : Program} {ops : Array Oper} {rest : List Oper} {o : Oper} {a : Act} {w : World} {Q : Exit → Act → World → Prop}
theorem wpList_appendB (hgd : o.guard = none) (s x : Operand) (t : TypeId) (ho : o.op = .call { callee := .builtin .append, args := #[s, x], argTypes := #[t, t] })
    (B : Nat) (e : TypeId) (i : TypeInfo) (ht : P.underlying t = some (.slice e)) (hi : P.info? e = some i) (hz : i.zero = some (.int .u8 0)) (hsz : i.size = 1) (hby : i.bytes = 1)
    (v : Value) (l : List UInt8) (hs : a.eval s = v) (hown : LB w B e v l) (g m c : Nat) (ys : List UInt8) (hm : ys.length = m) (hx : a.eval x = .slice (some ⟨g, 0, none⟩) m c)
    (hcell : ∀ (j : Nat) (y : UInt8), ys[j]? = some y → w.cell? ⟨g, 0 + j, none⟩ = some (.int .u8 (y.toNat : Int)))
    (hl : l.length < 100000000000) (hm2 : m < 10000000) (hB : B ≤ w.heap.size)
    (h : ∀ v' w', LB w' B e v' (l ++ ys) → w.grownBy w' v.ownBlock → wpList P ops Q rest (a.put o.dst v') w') : wpList P ops Q (o :: rest) a w := by
  refine wpList_append_own w hgd s x t ho B e i (.int .u8 0) 1 1 ht hi hz hsz hby rfl (by decide) v l.length (l.map bytV) hs hown.2 ⟨g, 0, none⟩ m c (ys.map bytV) hx (by simp [hm]) ?_ ?_ ?_ ?_ hB ?_
  · intro j u hj
    rw [List.getElem?_map] at hj
    cases hy : ys[j]? with
    | none => rw [hy] at hj; cases hj
    | some y =>
      rw [hy] at hj
      obtain rfl : bytV y = u := by simpa using hj
      have h0 := hcell j y hy
      rw [addr_add]
      rwa [Nat.zero_add] at h0
  · intro u hu
    obtain ⟨y, _, rfl⟩ := List.mem_map.1 hu
    rfl
  · unfold maxLen; omega
  · omega
  · intro v' w' h1 h2 h3
    refine h v' w' ⟨?_, ?_⟩ h2
    · rcases h1.2 with ⟨hv, _⟩ | ⟨g', cap, cur, rfl, _⟩
      · obtain ⟨g0, c0, hv0⟩ := hown.1
        have := (h3.1 hv).1
        rw [hv0] at this
        cases this
      · exact ⟨g', cap, by rw [List.length_append, hm]⟩
    · rw [List.map_append, List.length_append, hm]
      exact h1
/-- the same as one step of a region that draws -/
theorem step_appendB {K : Act → World → Prop} {E : Prop} (hgd : o.guard = none) (s x : Operand) (t : TypeId) (ho : o.op = .call { callee := .builtin .append, args := #[s, x], argTypes := #[t, t] })
    (B : Nat) (e : TypeId) (i : TypeInfo) (ht : P.underlying t = some (.slice e)) (hi : P.info? e = some i) (hz : i.zero = some (.int .u8 0)) (hsz : i.size = 1) (hby : i.bytes = 1)
    (v : Value) (l : List UInt8) (hs : a.eval s = v) (hown : LB w B e v l) (g m c : Nat) (ys : List UInt8) (hm : ys.length = m) (hx : a.eval x = .slice (some ⟨g, 0, none⟩) m c)
    (hcell : ∀ (j : Nat) (y : UInt8), ys[j]? = some y → w.cell? ⟨g, 0 + j, none⟩ = some (.int .u8 (y.toNat : Int)))
    (hl : l.length < 100000000000) (hm2 : m < 10000000) (hB : B ≤ w.heap.size)
    (h : ∀ v' w', LB w' B e v' (l ++ ys) → w.grownBy w' v.ownBlock → K (a.put o.dst v') w') : if Region.wanted o (yielded ops a.tmps) = true then Oper.wp P o a w K Q else E := by
  rw [if_pos (by simp [Region.wanted, hgd])]
  obtain ⟨v', w', hrun, h1, h2, h3⟩ := run_append_own (P := P) w B t o.type e i (.int .u8 0) 1 1 ht hi hz hsz hby rfl (by decide) v l.length (l.map bytV) hown.2 ⟨g, 0, none⟩ m c (ys.map bytV) (by simp [hm])
    (fun j u hj => by
      rw [List.getElem?_map] at hj
      cases hy : ys[j]? with
      | none => rw [hy] at hj; cases hj
      | some y =>
        rw [hy] at hj
        obtain rfl : bytV y = u := by simpa using hj
        have h0 := hcell j y hy
        rw [addr_add]
        rwa [Nat.zero_add] at h0)
    (fun u hu => by obtain ⟨y, _, rfl⟩ := List.mem_map.1 hu; rfl) (by unfold maxLen; omega) (by omega) hB
  unfold Oper.wp
  simp [execOp, ho, resolve, invoke, builtin, hs, hx, hrun, Result.andThen]
  refine h v' w' ⟨?_, ?_⟩ h2
  · rcases h1.2 with ⟨hv, _⟩ | ⟨g', cap, cur, rfl, _⟩
    · obtain ⟨g0, c0, hv0⟩ := hown.1
      have := (h3.1 hv).1
      rw [hv0] at this
      cases this
    · exact ⟨g', cap, by rw [List.length_append, hm]⟩
  · rw [List.map_append, List.length_append, hm]
    exact h1
/-- string(b) of own bytes -/
theorem wpList_strB (hgd : o.guard = none) (src dst e : TypeId) (x : Operand) (ho : o.op = .convert src dst x) {B : Nat} {e' : TypeId} {v : Value} {l : List UInt8}
    (hs : P.underlying src = some (.slice e)) (he : P.underlying e = some (.int .u8)) (hd : P.underlying dst = some .string) (hx : a.eval x = v) (hown : LB w B e' v l)
    (h : wpList P ops Q rest (a.put o.dst (.string ⟨l.toArray⟩)) w) : wpList P ops Q (o :: rest) a w := by
  obtain ⟨⟨g, cap, rfl⟩, _⟩ := hown.1, hown.2
  refine wpList_plain hgd fun K hK => ?_
  have hr := run_convert_bytes_back (P := P) w src dst e ⟨g, 0, none⟩ cap l hs he hd (fun j hj => by have h0 := LB.cell hown j hj; rw [addr_add]; rwa [Nat.zero_add] at h0)
  unfold Oper.wp execOp
  simp only [ho, hx]
  simp only [Sem.run_bind, hr, Result.andThen_ok, Sem.run_pure]
  exact hK _ _ h
end
end Go.Proofs.Ytnkfghoajpghkaa
