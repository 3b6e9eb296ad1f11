/- Plain facts: a row of own longs behind the sort of the library. No condition. -/
import Derived.Test.YtoijoogonajopaaSli
import Derived.Sort.Row
import Derived.Sort.Grow
namespace Go.Proofs.Ytoijoogonajopaa
open Go.RowKit
theorem heap_sorted {w : World} {g n : Nat} {cur : Array Value} {e : TypeId} {zs : List Int} {os : Array Obj} (hg : w.heap[g]? = some (.cells cur e (0, 0))) :
    (Go.Sort.grow (Go.Sort.putRow (Value.int .i64) (Go.Sort.ahead w n) g 0 zs.toArray) os).heap[g]? = some (.cells (Go.Sort.putCells (Value.int .i64) 0 zs.toArray cur) e (0, 0)) := by
  have hlt : g < w.heap.size := (Array.getElem?_eq_some_iff.1 hg).1
  show ((w.heap.modify g (Go.Sort.onCells (Go.Sort.putCells (Value.int .i64) 0 zs.toArray))) ++ os)[g]? = _
  rw [Array.getElem?_append_left (by simpa using hlt), Array.getElem?_modify, if_pos rfl, hg]
  rfl
theorem take_sorted {n cap : Nat} {cur : Array Value} {zs : List Int} (hz : zs.length = n) (hc : n ≤ cap) (hcur : cur.size = cap) :
    (Go.Sort.putCells (Value.int .i64) 0 zs.toArray cur).toList.take n = zs.map fun x => .int .i64 x := by
  apply List.ext_getElem?
  intro i
  rw [List.getElem?_take, List.getElem?_map]
  by_cases hi : i < n
  · rw [if_pos hi]
    have hi2 : i < cur.size := by omega
    have hi3 : i < zs.length := by omega
    unfold Go.Sort.putCells
    simp [hi2, hi3]
  · rw [if_neg hi, List.getElem?_eq_none (by omega)]
    rfl
theorem LL.sorted {w : World} {B g cap n : Nat} {e : TypeId} {l zs : List Int} {os : Array Obj} (h : LL w B e (.slice (some ⟨g, 0, none⟩) l.length cap) l) (hz : zs.length = l.length) :
    LL (Go.Sort.grow (Go.Sort.putRow (Value.int .i64) (Go.Sort.ahead w n) g 0 zs.toArray) os) B e (.slice (some ⟨g, 0, none⟩) l.length cap) zs := by
  obtain ⟨h1, h2⟩ := h
  rcases h2 with ⟨hv, _⟩ | ⟨g', cap', cur, hv, hB, hg, hn, hm, hs, ht⟩
  · cases hv
  · injection hv with e1 e2 e3
    injection e1 with e1
    injection e1 with e1
    subst e1 e3
    refine ⟨by simp, .inr ⟨g, cap, Go.Sort.putCells (Value.int .i64) 0 zs.toArray cur, by rw [hz], hB, heap_sorted hg, by omega, hm, by simp [Go.Sort.putCells, hs], ?_⟩⟩
    rw [Nat.mul_one] at hs ⊢
    exact take_sorted rfl (by omega) hs
theorem below_sorted {w w0 : World} {B g n : Nat} {zs : List Int} {os : Array Obj} (h : Below B w0 w) (hB : B ≤ g) (hs : B ≤ w.heap.size) : Below B w0 (Go.Sort.grow (Go.Sort.putRow (Value.int .i64) (Go.Sort.ahead w n) g 0 zs.toArray) os) := by
  refine ⟨h.os, h.tape, h.output, ?_, fun k hk => ?_⟩
  · refine Nat.le_trans h.size ?_
    show w.heap.size ≤ ((w.heap.modify g (Go.Sort.onCells (Go.Sort.putCells (Value.int .i64) 0 zs.toArray))) ++ os).size
    simp
  · rw [← h.block k hk]
    show ((w.heap.modify g (Go.Sort.onCells (Go.Sort.putCells (Value.int .i64) 0 zs.toArray))) ++ os)[k]? = _
    rw [Array.getElem?_append_left (by simp; omega), Array.getElem?_modify, if_neg (by omega)]
end Go.Proofs.Ytoijoogonajopaa
