/- Rows of slices of longs as lists of lists: grown by one, kept. No condition. -/
import Derived.Test.YtnkfghoajpghkaaRows
import Derived.Test.YtnkfghoajpghkaaSS
import Derived.Test.YtnkfghoajpghkaaSSA
import Derived.Test.YtnkfghoajpghkaaTrailP
set_option linter.unusedVariables false
namespace Go.Proofs.Ytnkfghoajpghkaa
open Go.RowKit Plain
theorem LL.congrF {w : World} {B : Nat} {e : TypeId} {v : Value} {l : List Int} (h : LL w B e v l) : RowF w B e v l.length (lng (fun i => l.getD i 0)) := h.rowF
theorem RowF.apartBlk {w : World} {B n : Nat} {e t : TypeId} {v : Value} {f : Nat → Value} {g : Nat} {cs : Array Value} (h : RowF w B e v n f) (hb : Blk w g t cs) (hne : e ≠ t) : v.ownBlock ≠ some g := fun e1 => by
  obtain ⟨ds, h1⟩ := h.typ g e1
  have h2 : w.heap[g]? = some (.cells cs t (0, 0)) := hb
  rw [h1] at h2
  injection h2 with h2
  injection h2 with _ h2
  exact hne h2
def lenL (ls : List (List Int)) : Nat → Nat := fun i => (ls.getD i []).length
def valL (ls : List (List Int)) : Nat → Nat → Int := fun i j => (ls.getD i []).getD j 0
/-- All blocks of the row and of its slices lie below Z. -/
def SSZ (v : Value) (n : Nat) (vals : Nat → Value) (Z : Nat) : Prop := (∀ g, v.ownBlock = some g → g < Z) ∧ ∀ i, i < n → ∀ g, (vals i).ownBlock = some g → g < Z
theorem SS.ssz {w : World} {B n : Nat} {v : Value} {vals : Nat → Value} {len : Nat → Nat} {f : Nat → Nat → Int} (h : SS w B v n vals len f) : SSZ v n vals w.heap.size :=
  ⟨fun g hg => (h.row.lt g hg).2, fun i hi g hg => ((h.each i hi).lt g hg).2⟩
theorem SS.under {w w' : World} {B n C : Nat} {v : Value} {vals : Nat → Value} {len : Nat → Nat} {f : Nat → Nat → Int} (h : SS w B v n vals len f) (hz : SSZ v n vals C) (hb : Below C w w') : SS w' B v n vals len f :=
  ⟨h.row.under hb hz.1, fun i hi => (h.each i hi).under hb (hz.2 i hi), h.full, h.apart⟩
theorem SS.grownG {w w' : World} {B n Z : Nat} {row : Option Nat} {v : Value} {vals : Nat → Value} {len : Nat → Nat} {f : Nat → Nat → Int} (h : SS w B v n vals len f) (hz : SSZ v n vals Z) (hg : w.grownBy w' row) (hr : ∀ g, row = some g → Z ≤ g) : SS w' B v n vals len f := by
  have key : ∀ u : Value, (∀ g, u.ownBlock = some g → g < Z) → u.ownBlock = none ∨ u.ownBlock ≠ row := fun u hu => by
    cases hu2 : u.ownBlock with
    | none => exact .inl rfl
    | some a =>
      refine .inr fun e => ?_
      have := hu a hu2
      have := hr a e.symm
      omega
  exact ⟨h.row.kept hg (key v hz.1), fun i hi => (h.each i hi).kept hg (key _ (hz.2 i hi)), h.full, h.apart⟩
theorem SS.farB {w : World} {B n g : Nat} {v : Value} {vals : Nat → Value} {len : Nat → Nat} {f : Nat → Nat → Int} (h : SS w B v n vals len f) {t : TypeId} {cs : Array Value} (hb : Blk w g t cs) (h1 : 36 ≠ t) (h2 : 2 ≠ t) (i : Nat) (u : Value) : SS (w.setCell ⟨g, i, none⟩ u) B v n vals len f :=
  ⟨h.row.far (p := ⟨g, i, none⟩) (h.row.apartBlk hb h1) u, fun j hj => (h.each j hj).far (p := ⟨g, i, none⟩) ((h.each j hj).apartBlk hb h2) u, h.full, h.apart⟩
theorem SS.farR {w : World} {B n g : Nat} {v : Value} {vals : Nat → Value} {len : Nat → Nat} {f : Nat → Nat → Int} (h : SS w B v n vals len f) (hz : SSZ v n vals g) (cs : Array Value) : SS (w.setRow g cs) B v n vals len f := by
  have key : ∀ {e : TypeId} {u : Value} {m : Nat} {q : Nat → Value}, RowF w B e u m q → (∀ a, u.ownBlock = some a → a < g) → RowF (w.setRow g cs) B e u m q := fun {e u m q} hr hu => by
    refine ⟨hr.1, ?_⟩
    rcases hr.2 with hn | ⟨g', cap, cur, rfl, hB, hg, rest⟩
    · exact .inl hn
    · refine .inr ⟨g', cap, cur, rfl, hB, ?_, rest⟩
      rw [setRow_other w g g' cs (fun e => by have := hu g' rfl; omega)]
      exact hg
  exact ⟨key h.row hz.1, fun j hj => key (h.each j hj) (hz.2 j hj), h.full, h.apart⟩
theorem SS.alloc {w : World} {B n : Nat} {v : Value} {vals : Nat → Value} {len : Nat → Nat} {f : Nat → Nat → Int} (h : SS w B v n vals len f) (o : Obj) : SS (w.alloc o) B v n vals len f :=
  ⟨h.row.alloc o, fun i hi => (h.each i hi).alloc o, h.full, h.apart⟩
theorem SS.monoB {w : World} {B B' n : Nat} {v : Value} {vals : Nat → Value} {len : Nat → Nat} {f : Nat → Nat → Int} (h : SS w B v n vals len f) (hb : B' ≤ B) : SS w B' v n vals len f :=
  ⟨h.row.mono hb, fun i hi => (h.each i hi).mono hb, h.full, h.apart⟩
/-- A list of lists, laid as a row of slices. -/
theorem SS.nil {w : World} {B : Nat} {v : Value} {vals : Nat → Value} (h : RowF w B 36 v 0 vals) : SS w B v ([] : List (List Int)).length vals (lenL []) (valL []) :=
  ⟨h, fun i hi => absurd hi (Nat.not_lt_zero i), fun i hi => absurd hi (Nat.not_lt_zero i), fun i j hi => absurd hi (Nat.not_lt_zero i)⟩
theorem rowF_lit {w : World} {B n : Nat} {e : TypeId} {f : Nat → Value} (hn : w.heap.size = n) (hb : B ≤ n) : RowF (w.alloc (.cells #[] e)) B e (.slice (some ⟨n, 0, none⟩) 0 0) 0 f := by
  subst hn
  exact World.ownsRow_lit w #[] 0 hb (Nat.zero_le _) rfl
theorem rowF_nilS {w : World} {B : Nat} {e : TypeId} {f : Nat → Value} : RowF w B e (.slice none 0 0) 0 f := World.ownsRow_nil w B _ _
/-- One slice appended. -/
theorem SS.snoc {w w' : World} {B C : Nat} {v v' u : Value} {vals : Nat → Value} {ls : List (List Int)} {l : List Int} (h : SS w B v ls.length vals (lenL ls) (valL ls)) (hu : LL w C 2 u l) (hz : SSZ v ls.length vals C) (hC : B ≤ C)
    (h0 : l ≠ []) (h16 : l.length ≤ 16) (hr : RowF w' B 36 v' (ls.length + 1) (upd vals ls.length u)) (hg : w.grownBy w' v.ownBlock) :
    SS w' B v' (ls ++ [l]).length (upd vals ls.length u) (lenL (ls ++ [l])) (valL (ls ++ [l])) := by
  have hl0 : 0 < l.length := List.length_pos_iff.2 h0
  have old : ∀ i, i < ls.length → (ls ++ [l]).getD i [] = ls.getD i [] := fun i hi => by
    rw [List.getD_eq_getElem?_getD, List.getElem?_append_left hi, List.getD_eq_getElem?_getD]
  have new : (ls ++ [l]).getD ls.length [] = l := by
    rw [List.getD_eq_getElem?_getD, List.getElem?_append_right (Nat.le_refl _)]
    simp
  have hlen : (ls ++ [l]).length = ls.length + 1 := by simp
  rw [hlen]
  refine ⟨hr, fun i hi => ?_, fun i hi => ?_, fun i j hi hj hij => ?_⟩
  · by_cases e : i = ls.length
    · subst e
      rw [upd_same]
      unfold lenL valL
      rw [new]
      exact (hu.congrF.mono hC).kept hg (hu.congrF.other h.row (by decide))
    · rw [upd_other _ _ e]
      unfold lenL valL
      rw [old i (by omega)]
      exact (h.each i (by omega)).kept hg ((h.each i (by omega)).other h.row (by decide))
  · unfold lenL
    by_cases e : i = ls.length
    · subst e; rw [new]; exact ⟨hl0, h16⟩
    · rw [old i (by omega)]; exact h.full i (by omega)
  · have far : ∀ k, k < ls.length → (vals k).ownBlock ≠ u.ownBlock := fun k hk e => by
      cases hv : (vals k).ownBlock with
      | none =>
        obtain ⟨a, cap, ha, _, _, hf⟩ := (h.each k hk).form
        have hfk := (h.full k hk).1
        obtain ⟨g, rfl, _⟩ := hf.resolve_left (by unfold lenL at *; omega)
        rw [ha] at hv
        cases hv
      | some a =>
        have h1 := hz.2 k hk a hv
        have h2 := (hu.lt a (by rw [← e, hv])).1
        omega
    by_cases e : i = ls.length
    · subst e
      rw [upd_same, upd_other _ _ (show j ≠ ls.length from fun e => hij e.symm)]
      exact fun e => far j (by omega) e.symm
    · rw [upd_other _ _ e]
      by_cases e2 : j = ls.length
      · subst e2
        rw [upd_same]
        exact far i (by omega)
      · rw [upd_other _ _ e2]
        exact h.apart i j (by omega) (by omega) hij
end Go.Proofs.Ytnkfghoajpghkaa
