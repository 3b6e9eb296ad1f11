/- Plain lemmas: rows of cells given by functions, blocks known whole, small steps of a walk. No condition. -/
import Derived.WalkKit
import Derived.WalkSpells
import Derived.WalkLawsBesides
import Derived.Lib.Hide
import Derived.Deep.QuietTactic
import Derived.BigQuiet
import Derived.Laws.CopyOwn
import Derived.Deep.MidRow
namespace Go.Proofs.Ytphfiekhpicpgaa
open Go.RowKit

/-- The row of n cells that f gives. -/
def rowOf (n : Nat) (f : Nat → Value) : Array Value := ((List.range n).map f).toArray
def upd {α : Type} (f : Nat → α) (k : Nat) (v : α) : Nat → α := fun i => if i = k then v else f i
theorem upd_same {α : Type} (f : Nat → α) (k : Nat) (v : α) : upd f k v k = v := by simp [upd]
theorem upd_other {α : Type} (f : Nat → α) {k i : Nat} (v : α) (h : i ≠ k) : upd f k v i = f i := by simp [upd, h]
theorem rowOf_size (n : Nat) (f : Nat → Value) : (rowOf n f).size = n := by simp [rowOf]
theorem rowOf_get (n : Nat) (f : Nat → Value) (i : Nat) : (rowOf n f)[i]? = if i < n then some (f i) else none := by
  unfold rowOf
  by_cases h : i < n <;> simp [h]
theorem rowOf_at {n : Nat} (f : Nat → Value) {i : Nat} (h : i < n) : (rowOf n f)[i]? = some (f i) := by rw [rowOf_get, if_pos h]
theorem rowOf_congr {n : Nat} {f g : Nat → Value} (h : ∀ i, i < n → f i = g i) : rowOf n f = rowOf n g := by
  apply Array.ext_getElem?
  intro i
  rw [rowOf_get, rowOf_get]
  by_cases hi : i < n
  · rw [if_pos hi, if_pos hi, h i hi]
  · rw [if_neg hi, if_neg hi]
theorem rowOf_set (n : Nat) (f : Nat → Value) (k : Nat) (v : Value) : (rowOf n f).setIfInBounds k v = rowOf n (upd f k v) := by
  apply Array.ext_getElem?
  intro i
  rw [rowOf_get, Array.getElem?_setIfInBounds, rowOf_size, rowOf_get]
  unfold upd
  by_cases hk : k = i
  · subst hk
    by_cases hi : k < n <;> simp [hi]
  · have hk' : ¬ i = k := fun e => hk e.symm
    rw [if_neg hk, if_neg hk']
theorem rowOf_of (cs : Array Value) : cs = rowOf cs.size (fun i => cs.getD i undef) := by
  apply Array.ext_getElem?
  intro i
  rw [rowOf_get]
  by_cases h : i < cs.size
  · simp [h]
  · simp [h]

/- Rows of bytes, of int64s, of bools. -/
def byteRow (n : Nat) (b : Nat → UInt8) : Array Value := rowOf n fun i => .int .u8 ((b i).toNat : Int)
def longRow (n : Nat) (b : Nat → Int) : Array Value := rowOf n fun i => .int .i64 (b i)
def boolRow (n : Nat) (b : Nat → Bool) : Array Value := rowOf n fun i => .bool (b i)
theorem byteRow_size (n : Nat) (b : Nat → UInt8) : (byteRow n b).size = n := rowOf_size n _
theorem longRow_size (n : Nat) (b : Nat → Int) : (longRow n b).size = n := rowOf_size n _
theorem boolRow_size (n : Nat) (b : Nat → Bool) : (boolRow n b).size = n := rowOf_size n _
theorem byteRow_at {n : Nat} (b : Nat → UInt8) {i : Nat} (h : i < n) : (byteRow n b)[i]? = some (.int .u8 ((b i).toNat : Int)) := rowOf_at _ h
theorem longRow_at {n : Nat} (b : Nat → Int) {i : Nat} (h : i < n) : (longRow n b)[i]? = some (.int .i64 (b i)) := rowOf_at _ h
theorem boolRow_at {n : Nat} (b : Nat → Bool) {i : Nat} (h : i < n) : (boolRow n b)[i]? = some (.bool (b i)) := rowOf_at _ h
theorem byteRow_congr {n : Nat} {b c : Nat → UInt8} (h : ∀ i, i < n → b i = c i) : byteRow n b = byteRow n c := rowOf_congr fun i hi => by rw [h i hi]
theorem longRow_congr {n : Nat} {b c : Nat → Int} (h : ∀ i, i < n → b i = c i) : longRow n b = longRow n c := rowOf_congr fun i hi => by rw [h i hi]
theorem boolRow_congr {n : Nat} {b c : Nat → Bool} (h : ∀ i, i < n → b i = c i) : boolRow n b = boolRow n c := rowOf_congr fun i hi => by rw [h i hi]
theorem byteRow_set (n : Nat) (b : Nat → UInt8) (k : Nat) (v : UInt8) : (byteRow n b).setIfInBounds k (.int .u8 (v.toNat : Int)) = byteRow n (upd b k v) := by
  unfold byteRow
  rw [rowOf_set]
  exact rowOf_congr fun i _ => by unfold upd; split <;> rfl
theorem longRow_set (n : Nat) (b : Nat → Int) (k : Nat) (v : Int) : (longRow n b).setIfInBounds k (.int .i64 v) = longRow n (upd b k v) := by
  unfold longRow
  rw [rowOf_set]
  exact rowOf_congr fun i _ => by unfold upd; split <;> rfl
theorem boolRow_set (n : Nat) (b : Nat → Bool) (k : Nat) (v : Bool) : (boolRow n b).setIfInBounds k (.bool v) = boolRow n (upd b k v) := by
  unfold boolRow
  rw [rowOf_set]
  exact rowOf_congr fun i _ => by unfold upd; split <;> rfl

/-- Block g is just the cells cs of element type t, none frozen. -/
def Blk (w : World) (g : Nat) (t : TypeId) (cs : Array Value) : Prop := w.heap[g]? = some (.cells cs t (0, 0))
section
variable {w w' : World} {g : Nat} {t : TypeId} {cs : Array Value}
theorem Blk.lt (h : Blk w g t cs) : g < w.heap.size := by
  rcases Nat.lt_or_ge g w.heap.size with hlt | hge
  · exact hlt
  · unfold Blk at h; rw [Array.getElem?_eq_none hge] at h; cases h
theorem Blk.cell (h : Blk w g t cs) (i : Nat) : w.cell? ⟨g, i, none⟩ = cs[i]? := cell_of_row w g i cs t (0, 0) h
theorem Blk.frozen (h : Blk w g t cs) (i : Nat) : w.frozen? ⟨g, i, none⟩ = false := by
  unfold Blk at h
  simp [World.frozen?, h]
theorem Blk.new (w : World) (t : TypeId) (cs : Array Value) : Blk (w.alloc (.cells cs t)) w.heap.size t cs := heap_alloc_new w _
theorem Blk.newAt {n : Nat} (h : w.heap.size = n) : Blk (w.alloc (.cells cs t)) n t cs := by subst h; exact Blk.new w t cs
theorem Blk.drew (h : Blk w g t cs) : Blk w.drew g t cs := h
theorem Blk.drewN (h : Blk w g t cs) (n : Nat) : Blk (w.drewN n) g t cs := h
theorem Blk.alloc (h : Blk w g t cs) (o : Obj) : Blk (w.alloc o) g t cs := (Below.heap_alloc w o g h.lt).trans h
theorem Blk.set_ (h : Blk w g t cs) (i : Nat) (u : Value) : Blk (w.setCell ⟨g, i, none⟩ u) g t (cs.setIfInBounds i u) := by
  unfold Blk at h ⊢
  simp [World.setCell, Array.getElem?_modify, h]
theorem Blk.far (h : Blk w g t cs) {p : Addr} (hp : g ≠ p.block) (u : Value) : Blk (w.setCell p u) g t cs := (Below.heap_setCell w p u g hp).trans h
theorem Blk.below {B : Nat} (h : Blk w g t cs) (hb : Below B w w') (hg : g < B) : Blk w' g t cs := (hb.block g hg).trans h
theorem Blk.grown {row : Option Nat} (h : Blk w g t cs) (hb : w.grownBy w' row) (hg : some g ≠ row) : Blk w' g t cs := (hb.block g h.lt hg).trans h
theorem Blk.eq_ {cs' : Array Value} (h : Blk w g t cs) (e : cs = cs') : Blk w g t cs' := e ▸ h
theorem Blk.setRow (h : Blk w g t cs) (cs' : Array Value) : Blk (w.setRow g cs') g t cs' := setRow_heap w g cs cs' t _ h
theorem Blk.rowFar (h : Blk w g t cs) {k : Nat} (hk : g ≠ k) (cs' : Array Value) : Blk (w.setRow k cs') g t cs := (setRow_other w k g cs' hk).trans h
end
section
variable {w : World} {g t n : Nat}
theorem Blk.at_ {f : Nat → Value} (h : Blk w g t (rowOf n f)) {i : Nat} (hi : i < n) : w.cell? ⟨g, i, none⟩ = some (f i) := (h.cell i).trans (rowOf_at f hi)
theorem Blk.put {f : Nat → Value} (h : Blk w g t (rowOf n f)) (i : Nat) (u : Value) : Blk (w.setCell ⟨g, i, none⟩ u) g t (rowOf n (upd f i u)) := (h.set_ i u).eq_ (rowOf_set n f i u)
theorem Blk.byteAt {b : Nat → UInt8} (h : Blk w g t (byteRow n b)) {i : Nat} (hi : i < n) : w.cell? ⟨g, i, none⟩ = some (.int .u8 ((b i).toNat : Int)) := (h.cell i).trans (byteRow_at b hi)
theorem Blk.longAt {b : Nat → Int} (h : Blk w g t (longRow n b)) {i : Nat} (hi : i < n) : w.cell? ⟨g, i, none⟩ = some (.int .i64 (b i)) := (h.cell i).trans (longRow_at b hi)
theorem Blk.boolAt {b : Nat → Bool} (h : Blk w g t (boolRow n b)) {i : Nat} (hi : i < n) : w.cell? ⟨g, i, none⟩ = some (.bool (b i)) := (h.cell i).trans (boolRow_at b hi)
theorem Blk.bytePut {b : Nat → UInt8} (h : Blk w g t (byteRow n b)) (i : Nat) (v : UInt8) : Blk (w.setCell ⟨g, i, none⟩ (.int .u8 (v.toNat : Int))) g t (byteRow n (upd b i v)) := (h.set_ i _).eq_ (byteRow_set n b i v)
theorem Blk.longPut {b : Nat → Int} (h : Blk w g t (longRow n b)) (i : Nat) (v : Int) : Blk (w.setCell ⟨g, i, none⟩ (.int .i64 v)) g t (longRow n (upd b i v)) := (h.set_ i _).eq_ (longRow_set n b i v)
theorem Blk.boolPut {b : Nat → Bool} (h : Blk w g t (boolRow n b)) (i : Nat) (v : Bool) : Blk (w.setCell ⟨g, i, none⟩ (.bool v)) g t (boolRow n (upd b i v)) := (h.set_ i _).eq_ (boolRow_set n b i v)
end
theorem Blk.farC {w : World} {g t : Nat} {cs : Array Value} (h : Blk w g t cs) {g' i : Nat} (hp : g ≠ g') (u : Value) : Blk (w.setCell ⟨g', i, none⟩ u) g t cs := h.far (p := ⟨g', i, none⟩) hp u
theorem upd_fill {α : Type} (b : Nat → α) (z : α) (k : Nat) : upd (fun i => if i < k then b i else z) k (b k) = fun i => if i < k + 1 then b i else z := by
  funext i
  unfold upd
  by_cases h : i = k
  · subst h; simp
  · by_cases h2 : i < k
    · simp [h, h2, show i < k + 1 by omega]
    · simp [h, h2, show ¬ i < k + 1 by omega]
theorem byteRow_full {n k : Nat} (b z : Nat → UInt8) (h : ¬ k < n) : byteRow n (fun i => if i < k then b i else z i) = byteRow n b := byteRow_congr fun i hi => if_pos (by omega)
theorem longRow_full {n k : Nat} (b z : Nat → Int) (h : ¬ k < n) : longRow n (fun i => if i < k then b i else z i) = longRow n b := longRow_congr fun i hi => if_pos (by omega)
theorem byteRow_none (n : Nat) (b : Nat → UInt8) (z : UInt8) : byteRow n (fun _ => z) = byteRow n (fun i => if i < 0 then b i else z) := byteRow_congr fun i _ => (if_neg (Nat.not_lt_zero i)).symm
theorem longRow_none (n : Nat) (b : Nat → Int) (z : Int) : longRow n (fun _ => z) = longRow n (fun i => if i < 0 then b i else z) := longRow_congr fun i _ => (if_neg (Nat.not_lt_zero i)).symm
theorem below_drewN' {B : Nat} {a w : World} (h : Below B a w) (n : Nat) : Below B a (w.drewN n) := ⟨h.os, h.tape, h.output, h.size, h.block⟩
theorem below_row {B g : Nat} {a w : World} (h : Below B a w) (hg : B ≤ g) (cs : Array Value) : Below B a (w.setRow g cs) := below_setRow h hg cs

/- A whole row out of a block, and into one. -/
section
variable {P : Program} {ops : Array Oper} {rest : List Oper} {o : Oper} {a : Act} {w : World} {Q : Exit → Act → World → Prop}
theorem wpList_loadR (hgd : o.guard = none) (ty : TypeId) (x : Operand) (ho : o.op = .load ty x)
    (g : Nat) (hx : a.eval x = .pointer (some ⟨g, 0, none⟩)) {t : TypeId} {cs : Array Value} {d : TypeDesc} {n : Nat} (hg : Blk w g t cs)
    (hu : P.underlying ty = some d) (hd : (match d with | .struct _ | .array _ _ => true | _ => false) = true) (hi : (P.info? ty).map (·.size) = some n) (hn : cs.size = n)
    (h : wpList P ops Q rest (a.put o.dst (.agg cs)) w) : wpList P ops Q (o :: rest) a w :=
  wpList_load_row hgd ty x ho g hx t cs (0, 0) d hg hu hd (by rw [hi, hn]) h
theorem wpList_storeR (hgd : o.guard = none) (ty : TypeId) (x y : Operand) (ho : o.op = .store ty x y)
    (g : Nat) (cells : Array Value) (hx : a.eval x = .pointer (some ⟨g, 0, none⟩)) (hy : a.eval y = .agg cells)
    {t : TypeId} {old : Array Value} {n : Nat} (hg : Blk w g t old) (hi : (P.info? ty).map (·.size) = some n)
    (hold : old.size = n) (hn : cells.size = n) (h1 : cells.all (·.oneCell') = true)
    (h : wpList P ops Q rest (a.put o.dst undef) (w.setRow g cells)) : wpList P ops Q (o :: rest) a w :=
  wpList_store_row hgd ty x y ho g cells hx hy t old hg (by rw [hi, hn]) (by rw [hold, hn]) h1 h
end
theorem rowOf_all (n : Nat) (f : Nat → Value) (h : ∀ i, (f i).oneCell' = true) : (rowOf n f).all (·.oneCell') = true := by
  rw [Array.all_eq_true_iff_forall_mem]
  intro v hv
  simp [rowOf] at hv
  obtain ⟨i, _, rfl⟩ := hv
  exact h i
theorem byteRow_all (n : Nat) (b : Nat → UInt8) : (byteRow n b).all (·.oneCell') = true := rowOf_all n _ fun _ => rfl
theorem longRow_all (n : Nat) (b : Nat → Int) : (longRow n b).all (·.oneCell') = true := rowOf_all n _ fun _ => rfl
theorem boolRow_all (n : Nat) (b : Nat → Bool) : (boolRow n b).all (·.oneCell') = true := rowOf_all n _ fun _ => rfl
theorem results_cellB {P : Program} {fn : Func} {p : Tmp} {ty : TypeId} (h : fn.results = #[.cell p ty]) (tmps : Array Value) (w : World) (g : Nat) {t : TypeId} {cs : Array Value} {d : TypeDesc} {n : Nat}
    (hp : tmps.getD p undef = .pointer (some ⟨g, 0, none⟩)) (hg : Blk w g t cs)
    (hu : P.underlying ty = some d) (hd : (match d with | .struct _ | .array _ _ => true | _ => false) = true) (hi : (P.info? ty).map (·.size) = some n) (hn : cs.size = n) :
    (results fn tmps).run P w = .ok (.agg cs) w := results_cell_row h tmps w g t cs (0, 0) d hp hg hu hd (by rw [hi, hn])
theorem results_cellB_tmp {P : Program} {fn : Func} {p u : Tmp} {ty : TypeId} (h : fn.results = #[.cell p ty, .tmp u]) (tmps : Array Value) (w : World) (g : Nat) {t : TypeId} {cs : Array Value} {d : TypeDesc} {n : Nat}
    (hp : tmps.getD p undef = .pointer (some ⟨g, 0, none⟩)) (hg : Blk w g t cs)
    (hu : P.underlying ty = some d) (hd : (match d with | .struct _ | .array _ _ => true | _ => false) = true) (hi : (P.info? ty).map (·.size) = some n) (hn : cs.size = n) :
    (results fn tmps).run P w = .ok (.tuple #[.agg cs, tmps.getD u undef]) w := by
  have hp' : tmps[p]?.getD undef = .pointer (some ⟨g, 0, none⟩) := by simpa using hp
  have hl := run_loadVar_row (P := P) w g t ty cs (0, 0) d hg hu hd (by rw [hi, hn])
  simp [results, h, hp', asAddr, hl]

/- Bytes: the operations of a walk on them, as those of UInt8. -/
theorem b_xor (x y : UInt8) : bits .xor .u8 (x.toNat : Int) (y.toNat : Int) = ((x ^^^ y).toNat : Int) := by
  rw [u8_xor_nat _ _ x.toNat_lt y.toNat_lt, UInt8.toNat_xor]
theorem b_and (x y : UInt8) : bits .and .u8 (x.toNat : Int) (y.toNat : Int) = ((x &&& y).toNat : Int) := by
  rw [u8_and_nat _ _ x.toNat_lt y.toNat_lt, UInt8.toNat_and]
theorem b_or (x y : UInt8) : bits .or .u8 (x.toNat : Int) (y.toNat : Int) = ((x ||| y).toNat : Int) := by
  rw [u8_or_nat _ _ x.toNat_lt y.toNat_lt, UInt8.toNat_or]
theorem ret_bool {a b : Bool} (h : a = b) : Ending.returned (.bool a) = .returned (.bool b) := by rw [h]
theorem ret_int {k : IntKind} {a b : Int} (h : a = b) : Ending.returned (.int k a) = .returned (.int k b) := by rw [h]
theorem ret_val {a b : Value} (h : a = b) : Ending.returned a = .returned b := by rw [h]
theorem byte_lt (x : UInt8) : (x.toNat : Int) < 256 := by have := x.toNat_lt; omega
theorem toNat_ofNat_lt {k : Nat} (h : k < 256) : (UInt8.ofNat k).toNat = k := by simp [UInt8.toNat_ofNat']; omega
/- A zero row built, and an element of a row that is a value. -/
section
variable {P : Program} {ops : Array Oper} {rest : List Oper} {o : Oper} {a : Act} {w : World} {Q : Exit → Act → World → Prop}
theorem wpList_buildZ (hgd : o.guard = none) (t : TypeId) (ho : o.op = .build t #[]) {cs : Array Value} (hb : P.built t [] = some cs)
    (h : wpList P ops Q rest (a.put o.dst (.agg cs)) w) : wpList P ops Q (o :: rest) a w :=
  wpList_build hgd t #[] ho (by simp [hb]) (by simpa [hb] using h)
theorem run_index_row {w : World} {t e n : Nat} {cs : Array Value} {k : Nat} {v : Value} (kd : IntKind) (hu : P.underlying t = some (.array n e)) (he : (P.info? e).map (·.size) = some 1) (hag : P.underlying e = some (.int .u8) ∨ P.underlying e = some (.int .i64) ∨ P.underlying e = some .bool)
    (hk : k < n) (hc : cs[k]? = some v) : (Instr.index t (.agg cs) (.int kd (k : Int))).run P w = .ok v w := by
  cases hq : P.info? e with
  | none => simp [hq] at he
  | some i =>
    have hs : i.size = 1 := by simpa [hq] using he
    rcases hag with hag | hag | hag <;>
    (simp [Instr.index, asIntOf, run_underlying hu, sizeOf, typeInfo, hq, hs, part, isAgg, run_underlying hag, hc, Sem.run_bind]; intro h; omega)
end
/- What is known of blocks and of old memory, carried over a call that leaves old memory alone. -/
theorem carryB {w0 w1 : World} {g t : Nat} {cs : Array Value} (h : Hid (Blk w0 g t cs)) (hb : Below w0.heap.size w0 w1) : Hid (Blk w1 g t cs) := h.out.below hb h.out.lt
theorem carryL {B : Nat} {w w0 w1 : World} (h : Hid (Below B w w0)) (hb : Below w0.heap.size w0 w1) (hB : B ≤ w0.heap.size := by simp) : Hid (Below B w w1) := h.out.trans (hb.mono hB)
theorem carryS {w w0 w1 : World} (h : Hid (Below w.heap.size w w0)) (hb : Below w0.heap.size w0 w1) : Hid (Below w.heap.size w w1) := h.out.trans (hb.mono h.out.size)
section
variable {P : Program} {ops : Array Oper} {rest : List Oper} {o : Oper} {a : Act} {w : World} {Q : Exit → Act → World → Prop}
theorem wpList_loadH (hgd : o.guard = none) (ty : TypeId) (x : Operand) (ho : o.op = .load ty x)
    (g : Nat) (hx : a.eval x = .pointer (some ⟨g, 0, none⟩)) {t : TypeId} {cs : Array Value} {d : TypeDesc} {n : Nat} (hg : Hid (Blk w g t cs))
    (hu : P.underlying ty = some d) (hd : (match d with | .struct _ | .array _ _ => true | _ => false) = true) (hi : (P.info? ty).map (·.size) = some n) (hn : cs.size = n)
    (h : wpList P ops Q rest (a.put o.dst (.agg cs)) w) : wpList P ops Q (o :: rest) a w :=
  wpList_loadR hgd ty x ho g hx hg.out hu hd hi hn h
/-- the same under a guard that lets the operation come up -/
theorem wpList_loadG (hw : Region.wanted o (yielded ops a.tmps) = true) (ty : TypeId) (x : Operand) (ho : o.op = .load ty x)
    (g : Nat) (hx : a.eval x = .pointer (some ⟨g, 0, none⟩)) {t : TypeId} {cs : Array Value} {d : TypeDesc} {n : Nat} (hg : Hid (Blk w g t cs))
    (hu : P.underlying ty = some d) (hd : (match d with | .struct _ | .array _ _ => true | _ => false) = true) (hi : (P.info? ty).map (·.size) = some n) (hn : cs.size = n)
    (h : wpList P ops Q rest (a.put o.dst (.agg cs)) w) : wpList P ops Q (o :: rest) a w :=
  wpList_step fun K hK => by
    rw [if_pos hw]
    exact wp_load_row ty x ho g hx t cs (0, 0) d hg.out hu hd (by rw [hi, hn]) (hK _ _ h)
end
theorem Blk.bytePutN {w : World} {g t n : Nat} {b : Nat → UInt8} (h : Blk w g t (byteRow n b)) (i : Nat) {v : Nat} (hv : v < 256) : Blk (w.setCell ⟨g, i, none⟩ (.int .u8 (v : Int))) g t (byteRow n (upd b i (UInt8.ofNat v))) := by
  have := h.bytePut i (UInt8.ofNat v)
  rwa [toNat_ofNat_lt hv] at this
/- A part of a row: read and written as a whole. -/
def putL (b : Nat → UInt8) : Nat → List UInt8 → Nat → UInt8
  | _, [] => b
  | o, v :: r => putL (upd b o v) (o + 1) r
theorem putL_eq : ∀ (l : List UInt8) (b : Nat → UInt8) (o i : Nat), putL b o l i = if o ≤ i ∧ i < o + l.length then l.getD (i - o) 0 else b i
  | [], _, _, _ => by rw [if_neg (by intro h; simp at h; omega)]; rfl
  | v :: r, b, o, i => by
    rw [putL, putL_eq r]
    by_cases h1 : i = o
    · subst h1
      rw [if_neg (by omega), upd_same, if_pos (by simp)]
      simp
    · rw [upd_other _ _ h1]
      by_cases h2 : o + 1 ≤ i ∧ i < o + 1 + r.length
      · rw [if_pos h2, if_pos (by simp; omega), show i - o = (i - (o + 1)) + 1 by omega]
        simp
      · rw [if_neg h2, if_neg (by simp; omega)]
theorem Blk.setL {g t N : Nat} : ∀ (l : List UInt8) (w : World) (b : Nat → UInt8) (o : Nat), Blk w g t (byteRow N b) → Blk (w.setCells g o (l.map fun v => Value.int .u8 (v.toNat : Int))) g t (byteRow N (putL b o l))
  | [], _, _, _, h => h
  | v :: r, _, _, o, h => Blk.setL r _ _ _ (h.bytePut o v)
theorem byteRow_list (n : Nat) (f : Nat → UInt8) : (byteRow n f).toList = ((List.range n).map f).map fun v => Value.int .u8 (v.toNat : Int) := by
  simp [byteRow, rowOf]
theorem Blk.setM {w : World} {g t N n o : Nat} {f b : Nat → UInt8} (h : Blk w g t (byteRow N b)) : Blk (w.setCells g o (byteRow n f).toList) g t (byteRow N (fun i => if o ≤ i ∧ i < o + n then f (i - o) else b i)) := by
  rw [byteRow_list]
  refine (Blk.setL _ w b o h).eq_ (byteRow_congr fun i _ => ?_)
  rw [putL_eq]
  simp only [List.length_map, List.length_range]
  by_cases hi : o ≤ i ∧ i < o + n
  · rw [if_pos hi, if_pos hi]
    rw [List.getD_eq_getElem?_getD, List.getElem?_map, List.getElem?_range (by omega)]
    rfl
  · rw [if_neg hi, if_neg hi]
theorem heap_setCells (g : Nat) : ∀ (l : List Value) (w : World) (o k : Nat), k ≠ g → (w.setCells g o l).heap[k]? = w.heap[k]?
  | [], _, _, _, _ => rfl
  | v :: r, w, o, k, h => (heap_setCells g r _ (o + 1) k h).trans (Below.heap_setCell w ⟨g, o, none⟩ v k h)
theorem size_setCells (g : Nat) : ∀ (l : List Value) (w : World) (o : Nat), (w.setCells g o l).heap.size = w.heap.size
  | [], _, _ => rfl
  | v :: r, w, o => (size_setCells g r _ _).trans (by simp [World.setCell])
theorem Blk.farM {w : World} {g t : Nat} {cs : Array Value} (h : Blk w g t cs) {g' : Nat} (hp : g ≠ g') (o : Nat) (l : List Value) : Blk (w.setCells g' o l) g t cs := (heap_setCells g' l w o g hp).trans h
theorem below_setM {B g : Nat} (hg : B ≤ g) : ∀ (l : List Value) (a w : World) (o : Nat), Below B a w → Below B a (w.setCells g o l)
  | [], _, _, _, h => h
  | v :: r, a, _, o, h => below_setM hg r a _ _ (h.setCell (p := ⟨g, o, none⟩) hg v)
section
variable {P : Program} {ops : Array Oper} {rest : List Oper} {o : Oper} {a : Act} {w : World} {Q : Exit → Act → World → Prop}
theorem wpList_loadM (hgd : o.guard = none) (ty : TypeId) (x : Operand) (ho : o.op = .load ty x)
    (g q : Nat) (hx : a.eval x = .pointer (some ⟨g, q, none⟩)) {t N n : Nat} {b : Nat → UInt8} {d : TypeDesc} (hg : Hid (Blk w g t (byteRow N b))) (hq : q + n ≤ N)
    (hu : P.underlying ty = some d) (hd : d.isRow = true) (hi : (P.info? ty).map (·.size) = some n)
    (h : wpList P ops Q rest (a.put o.dst (.agg (byteRow n fun j => b (q + j)))) w) : wpList P ops Q (o :: rest) a w := by
  refine wpList_load_mid hgd ty x ho g q hx (byteRow n fun j => b (q + j)).toList d (fun j v hv => ?_) hu hd (by rw [hi]; simp [byteRow_size]) h
  have hv' : (byteRow n fun j => b (q + j))[j]? = some v := by simpa using hv
  have hj : j < n := by
    have := (Array.getElem?_eq_some_iff.1 hv').1
    rwa [byteRow_size] at this
  rw [byteRow_at _ hj] at hv'
  rw [hg.out.byteAt (by omega)]
  exact hv'
theorem wpList_storeM (hgd : o.guard = none) (ty : TypeId) (x y : Operand) (ho : o.op = .store ty x y)
    (g q : Nat) (hx : a.eval x = .pointer (some ⟨g, q, none⟩)) {t N n : Nat} {b f : Nat → UInt8} (cells : Array Value) (hy : a.eval y = .agg cells) (hcs : cells = byteRow n f) (hg : Hid (Blk w g t (byteRow N b))) (hq : q + n ≤ N)
    (hi : (P.info? ty).map (·.size) = some n)
    (h : wpList P ops Q rest (a.put o.dst undef) (w.setCells g q (byteRow n f).toList)) : wpList P ops Q (o :: rest) a w := by
  subst hcs
  refine wpList_store_mid hgd ty x y ho g q (byteRow n f) hx hy (fun j hj => ?_) (by rw [hi]; simp [byteRow_size]) (byteRow_all _ _) h
  rw [byteRow_size] at hj
  exact ⟨by rw [hg.out.byteAt (by omega)]; rfl, hg.out.frozen _⟩
end
/- A region that draws its order, whose operations read old memory and whose calls leave old memory alone: one walk in the order of the text, in the class of the worlds that leave old memory alone. -/
def Cls (W w : World) : Prop := Below W.heap.size W w
theorem cls_drew (W : World) : Cls W { W with drawn := W.drawn + 1 } := (Below.refl _ W).drew
theorem cls_call {P : Program} {f : FuncId} {args : Array Value} {v : Value} {W : World} (h : ∀ w, Calls P f args w fun e w' => e = .returned v ∧ Below w.heap.size w w') :
    ∀ w, Cls W w → Calls P f args w fun e w' => e = .returned v ∧ Cls W w' :=
  fun w hC => (h w).mono fun _ _ ⟨he, hb⟩ => ⟨he, Below.trans hC (hb.mono hC.size)⟩
section
variable {P : Program} {ops : Array Oper} {rest : List Oper} {o : Oper} {a : Act} {C : World → Prop} {Q : Act → Prop}
theorem q_want (hw : Region.wanted o (yielded ops a.tmps) = true) (h : o.quiet P a C (wpQuiet P ops C Q rest)) : wpQuiet P ops C Q (o :: rest) a := by
  simp only [wpQuiet, hw, if_true]
  exact h
theorem q_val (hw : Region.wanted o (yielded ops a.tmps) = true) (v : Value) (h : ∀ w, C w → (execOp a.eval o).run P w = .ok (.value v) w) (hk : wpQuiet P ops C Q rest (a.put o.dst v)) : wpQuiet P ops C Q (o :: rest) a :=
  q_want hw ⟨v, fun w hC => by unfold Oper.quietAt; rw [h w hC]; exact ⟨rfl, rfl⟩, hk⟩
theorem q_move (hw : Region.wanted o (yielded ops a.tmps) = true) (x : Operand) (ho : o.op = .move x) (hk : wpQuiet P ops C Q rest (a.put o.dst (a.eval x))) : wpQuiet P ops C Q (o :: rest) a :=
  q_want hw (BigFrame.quiet_move x ho hk)
theorem q_call (hw : Region.wanted o (yielded ops a.tmps) = true) (f : FuncId) (args : Array Value) (v : Value) (h : ∀ w, C w → (execOp a.eval o).run P w = .ok (.enter f args) w)
    (hc : ∀ w, C w → Calls P f args w fun e w' => e = .returned v ∧ C w') (hk : wpQuiet P ops C Q rest (a.put o.dst v)) : wpQuiet P ops C Q (o :: rest) a :=
  q_want hw ⟨v, fun w hC => by unfold Oper.quietAt; rw [h w hC]; exact ⟨rfl, hc w hC⟩, hk⟩
theorem q_loadM (hw : Region.wanted o (yielded ops a.tmps) = true) (ty : TypeId) (x : Operand) (ho : o.op = .load ty x) (g q : Nat) (hx : a.eval x = .pointer (some ⟨g, q, none⟩)) {t N n : Nat} {b : Nat → UInt8} {d : TypeDesc}
    (hg : ∀ w, C w → Blk w g t (byteRow N b)) (hq : q + n ≤ N) (hu : P.underlying ty = some d) (hd : d.isRow = true) (hi : (P.info? ty).map (·.size) = some n)
    (hk : wpQuiet P ops C Q rest (a.put o.dst (.agg (byteRow n fun j => b (q + j))))) : wpQuiet P ops C Q (o :: rest) a := by
  refine q_val hw (.agg (byteRow n fun j => b (q + j))) (fun w hC => ?_) hk
  have hr : w.rangeAt g q (byteRow n fun j => b (q + j)).toList := fun j v hv => by
    have hv' : (byteRow n fun j => b (q + j))[j]? = some v := by simpa using hv
    have hj : j < n := by
      have := (Array.getElem?_eq_some_iff.1 hv').1
      rwa [byteRow_size] at this
    rw [byteRow_at _ hj] at hv'
    rw [(hg w hC).byteAt (by omega)]
    exact hv'
  have := run_loadVar_mid (P := P) w g q ty _ d hr hu hd (by rw [hi]; simp [byteRow_size])
  unfold execOp
  simp only [ho, hx, Instr.loadAt, Instr.sureAddr, Sem.run_bind, Sem.run_pure, Result.andThen_ok, this, Array.toArray_toList]
theorem q_loadR (hw : Region.wanted o (yielded ops a.tmps) = true) (ty : TypeId) (x : Operand) (ho : o.op = .load ty x) (g : Nat) (hx : a.eval x = .pointer (some ⟨g, 0, none⟩)) {t n : Nat} {cs : Array Value} {d : TypeDesc}
    (hg : ∀ w, C w → Blk w g t cs) (hu : P.underlying ty = some d) (hd : (match d with | .struct _ | .array _ _ => true | _ => false) = true) (hi : (P.info? ty).map (·.size) = some n) (hn : cs.size = n)
    (hk : wpQuiet P ops C Q rest (a.put o.dst (.agg cs))) : wpQuiet P ops C Q (o :: rest) a := by
  refine q_val hw (.agg cs) (fun w hC => ?_) hk
  have := run_loadVar_row (P := P) w g t ty cs (0, 0) d (hg w hC) hu hd (by rw [hi, hn])
  unfold execOp
  simp only [ho, hx, Instr.loadAt, Instr.sureAddr, Sem.run_bind, Sem.run_pure, Result.andThen_ok, this]
end
/- A whole row stored into the block that was made last: what follows is asked of every world that holds it and leaves old memory alone. -/
theorem wpList_storeNew {P : Program} {ops : Array Oper} {rest : List Oper} {o : Oper} {a : Act} {w : World} {Q : Exit → Act → World → Prop} {old : Array Value} {t : TypeId} (hgd : o.guard = none) (ty : TypeId) (x y : Operand) (ho : o.op = .store ty x y)
    (cells : Array Value) (hx : a.eval x = .pointer (some ⟨w.heap.size, 0, none⟩)) (hy : a.eval y = .agg cells) {n : Nat} {old' : Array Value} (hz : old = old')
    (hi : (P.info? ty).map (·.size) = some n) (hold : old'.size = n) (hn : cells.size = n) (h1 : cells.all (·.oneCell') = true)
    (h : ∀ w', Blk w' w.heap.size t cells → Below w.heap.size w w' → wpList P ops Q rest (a.put o.dst undef) w') : wpList P ops Q (o :: rest) a (w.alloc (.cells old t)) := by
  subst hz
  exact wpList_storeR hgd ty x y ho _ cells hx hy (Blk.new w t old) hi hold hn h1 (h _ ((Blk.new w t old).setRow _) (below_row ((Below.refl _ _).alloc (Nat.le_refl _) _) (Nat.le_refl _) _))
theorem long_and (a b : Nat) (ha : a < 65536) (hb : b < 65536) : bits .and .i64 (a : Int) (b : Int) = ((a &&& b : Nat) : Int) := by
  have hx : a &&& b < 2 ^ 16 := Nat.and_lt_two_pow _ (by omega)
  show IntKind.i64.wrap ((BitVec.ofInt 64 (a : Int) &&& BitVec.ofInt 64 (b : Int)).toNat : Int) = _
  rw [BitVec.toNat_and, BitVec.ofInt_natCast, BitVec.ofInt_natCast, BitVec.toNat_ofNat, BitVec.toNat_ofNat, Nat.mod_eq_of_lt (by omega), Nat.mod_eq_of_lt (by omega), IntKind.wrap_i64]
  omega
theorem long_xor (a b : Nat) (ha : a < 65536) (hb : b < 65536) : bits .xor .i64 (a : Int) (b : Int) = ((a ^^^ b : Nat) : Int) := by
  have hx : a ^^^ b < 2 ^ 16 := Nat.xor_lt_two_pow (by omega) (by omega)
  show IntKind.i64.wrap ((BitVec.ofInt 64 (a : Int) ^^^ BitVec.ofInt 64 (b : Int)).toNat : Int) = _
  rw [BitVec.toNat_xor, BitVec.ofInt_natCast, BitVec.ofInt_natCast, BitVec.toNat_ofNat, BitVec.toNat_ofNat, Nat.mod_eq_of_lt (by omega), Nat.mod_eq_of_lt (by omega), IntKind.wrap_i64]
  omega
theorem long_or (a b : Nat) (ha : a < 65536) (hb : b < 65536) : bits .or .i64 (a : Int) (b : Int) = ((a ||| b : Nat) : Int) := by
  have hx : a ||| b < 2 ^ 16 := Nat.or_lt_two_pow (by omega) (by omega)
  show IntKind.i64.wrap ((BitVec.ofInt 64 (a : Int) ||| BitVec.ofInt 64 (b : Int)).toNat : Int) = _
  rw [BitVec.toNat_or, BitVec.ofInt_natCast, BitVec.ofInt_natCast, BitVec.toNat_ofNat, BitVec.toNat_ofNat, Nat.mod_eq_of_lt (by omega), Nat.mod_eq_of_lt (by omega), IntKind.wrap_i64]
  omega
theorem ready_nil {ops : Array Oper} {listed : Array Bool} (h : ∀ i, listed.getD i true = true) : Region.ready .any ops listed = [] := by
  unfold Region.ready
  rw [List.filter_eq_nil_iff]
  intro i _
  simp [h i]
theorem count_set {l : List Bool} : ∀ {i : Nat}, l[i]? = some false → (l.set i true).count false + 1 = l.count false := by
  induction l with
  | nil => intro i h; simp at h
  | cons b l ih =>
    intro i h
    cases i with
    | zero =>
      simp at h
      subst h
      simp
    | succ i =>
      simp at h
      have := ih h
      simp only [List.set_cons_succ, List.count_cons]
      omega
/-- A region that draws its order, by what holds when a set of its operations has come up. -/
theorem wpAny_inv {P : Program} {ops : Array Oper} {Q : Exit → Act → World → Prop} {Inv : Array Bool → Act → World → Prop}
    (step : ∀ listed a w, Inv listed a w → ∀ i o, ops[i]? = some o → listed.getD i false = false → (∀ e ∈ o.after, Region.binds .any e = true → listed.getD e.on false = true) → wpOp P ops Q i (Inv (listed.setIfInBounds i true)) a w)
    (fin : ∀ listed a w, Inv listed a w → Region.ready .any ops listed = [] → Q .normal a w) :
    ∀ (fuel : Nat) (listed : Array Bool) (a : Act) (w : World), listed.toList.count false = fuel → Inv listed a w → wpAny P .any ops Q fuel listed a w
  | 0, listed, a, w, hf, hi => by
    have hn : Region.ready .any ops listed = [] := ready_nil fun i => by
      rw [Array.getD_eq_getD_getElem?]
      cases h : listed[i]? with
      | none => rfl
      | some b =>
        cases b with
        | true => rfl
        | false =>
          have : false ∈ listed.toList := by
            have := Array.mem_of_getElem? h
            simpa using this
          have := List.count_pos_iff.2 this
          omega
    exact ⟨hn, fin _ _ _ hi hn⟩
  | fuel + 1, listed, a, w, hf, hi => by
    refine ⟨fun hn => fin _ _ _ hi hn, fun i hr => ?_⟩
    obtain ⟨hun, o, ho, hall⟩ := mem_ready.1 hr
    have hget : listed[i]? = some false := by
      rw [Array.getD_eq_getD_getElem?] at hun
      cases h : listed[i]? with
      | none => rw [h] at hun; cases hun
      | some b => rw [h] at hun; simpa using hun
    have hun' : listed.getD i false = false := by rw [Array.getD_eq_getD_getElem?, hget]; rfl
    refine wpOp_mono (fun a' w' h => ?_) (step _ _ _ hi i o ho hun' hall)
    refine wpAny_inv step fin fuel _ a' w' ?_ h
    have := count_set (l := listed.toList) (i := i) (by simpa using hget)
    simp only [Array.toList_setIfInBounds]
    omega
theorem wp_region_inv {P : Program} {id : Nat} {ops : Array Oper} {Q : Exit → Act → World → Prop} {a : Act} {w : World} (Inv : Array Bool → Act → World → Prop) (hm : P.follows .mixedOrders = true)
    (init : Inv (Array.replicate ops.size false) a { w with drawn := w.drawn + 1 })
    (step : ∀ listed a w, Inv listed a w → ∀ i o, ops[i]? = some o → listed.getD i false = false → (∀ e ∈ o.after, Region.binds .any e = true → listed.getD e.on false = true) → wpOp P ops Q i (Inv (listed.setIfInBounds i true)) a w)
    (fin : ∀ listed a w, Inv listed a w → Region.ready .any ops listed = [] → Q .normal a w) : (Code.region id ops true).wp P Q a w :=
  wp_region_any hm (wpAny_inv step fin _ _ _ _ (by simp) init)
theorem wpOp_of {P : Program} {ops : Array Oper} {Q : Exit → Act → World → Prop} {i : Nat} {o : Oper} {K : Act → World → Prop} {a : Act} {w : World} (ho : ops[i]? = some o) (hw : Region.wanted o (yielded ops a.tmps) = true) (h : o.wp P a w K Q) : wpOp P ops Q i K a w := by
  unfold wpOp
  simp only [ho, hw, if_true]
  exact .inl h
/-- What a slot holds: v if its operation has come up. -/
def sl (b : Bool) (v old : Value) : Value := if b = true then v else old
theorem sl_true (v old : Value) : sl true v old = v := rfl
theorem sl_false (v old : Value) : sl false v old = old := rfl
theorem getD_set_bool {listed : Array Bool} {i : Nat} (h : i < listed.size) (j : Nat) : (listed.setIfInBounds i true).getD j false = (decide (i = j) || listed.getD j false) := by
  rw [Array.getD_eq_getD_getElem?, Array.getElem?_setIfInBounds, Array.getD_eq_getD_getElem?]
  by_cases hij : i = j
  · subst hij; simp [h]
  · simp [hij]
theorem range_of_blk {W w : World} {g t n : Nat} {b : Nat → UInt8} (h : Hid (Blk W g t (byteRow n b))) (hb : Below W.heap.size W w) : w.rangeAt g 0 (byteRow n b).toList := by
  intro j v hv
  rw [Nat.zero_add, (h.out.below hb h.out.lt).cell j]
  simpa using hv
def lexOK (ops : Array Oper) : Bool := (List.range ops.size).all fun i => match ops[i]? with
  | some o => o.after.all fun e => decide (e.on < i)
  | none => true
theorem all_listed {ops : Array Oper} {listed : Array Bool} (hs : listed.size = ops.size) (hl : lexOK ops = true) (h : Region.ready .any ops listed = []) : ∀ i, i < ops.size → listed.getD i false = true := by
  intro i
  induction i using Nat.strongRecOn with
  | _ i ih =>
    intro hi
    cases hg : listed.getD i false with
    | true => rfl
    | false =>
      have ho : ops[i]? = some ops[i] := Array.getElem?_eq_getElem hi
      have hlx := List.all_eq_true.1 hl i (List.mem_range.2 hi)
      rw [ho] at hlx
      have hmem : i ∈ Region.ready .any ops listed := by
        rw [mem_ready]
        refine ⟨?_, ops[i], ho, fun e he _ => ?_⟩
        · rw [Array.getD_eq_getD_getElem?] at hg ⊢
          rw [Array.getElem?_eq_getElem (by omega)] at hg ⊢
          exact hg
        · have := Array.all_eq_true_iff_forall_mem.1 hlx e he
          have hlt : e.on < i := of_decide_eq_true this
          exact ih e.on hlt (by omega)
      rw [h] at hmem
      cases hmem
end Go.Proofs.Ytphfiekhpicpgaa
