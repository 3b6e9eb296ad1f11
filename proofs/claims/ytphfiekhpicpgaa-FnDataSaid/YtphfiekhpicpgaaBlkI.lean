/- Slices of blocks that came in: opened, copied; the bytes of blocks by the program and by the reference. No condition. -/
import Derived.Test.YtphfiekhpicpgaaRows
import Derived.Test.YtphfiekhpicpgaaLaws
import Derived.Test.YtphfiekhpicpgaaBytes
import Derived.Test.YtphfiekhpicpgaaBlk
set_option linter.unusedVariables false
namespace Go.Proofs.Ytphfiekhpicpgaa
open Go.ChangeShapes Go.WideShapes Go.ChangeAt Go.RowKit
/-- A slice of blocks of 16 bytes that came in. -/
def BlockI (w : World) (a : Option Addr) (len cap : Nat) (b : Nat → UInt8) : Prop :=
  len ≤ cap ∧ cap ≤ maxLen ∧ (len = 0 ∨ ∃ g off, a = some ⟨g, off, none⟩ ∧ g < w.heap.size ∧ ∀ i, i < len * 16 → w.cell? ⟨g, off + i, none⟩ = some (.int .u8 ((b i).toNat : Int)))
theorem BlockI.below {w w' : World} {a : Option Addr} {n cap : Nat} {b : Nat → UInt8} (h : BlockI w a n cap b) (hb : Below w.heap.size w w') : BlockI w' a n cap b :=
  ⟨h.1, h.2.1, h.2.2.imp id fun ⟨g, off, e, hg, hc⟩ => ⟨g, off, e, Nat.lt_of_lt_of_le hg hb.size, fun i hi => (hb.cell (p := ⟨g, off + i, none⟩) hg).trans (hc i hi)⟩⟩
theorem RowB.blockI {w : World} {B n cap : Nat} {a : Option Addr} {b : Nat → UInt8} {e : TypeId} (h : RowB w B e (.slice a n cap) n b) : BlockI w a n cap b := by
  obtain ⟨a', cap', e, h1, h2, h3⟩ := h.form
  injection e with e1 e2 e3
  subst e1 e3
  refine ⟨h1, h2, h3.imp id ?_⟩
  rintro ⟨g, rfl, hB, hg⟩
  exact ⟨g, 0, rfl, hg, fun i hi => by rw [Nat.zero_add]; exact h.at_ hi⟩
section
variable {H : Type} {enc : TypeId × Value → H} {P : Program} {W : World} {r : Reach} {base : Nat} {sp : Nat → Bool} {hd : Bool} {v : Value} {d : DataW H} {p : List MemPlace}
theorem open_blockS {t e u : TypeId} (ht : P.underlying t = some (.slice e)) (he : P.underlying e = some (.array 16 u)) (hu : P.underlying u = some (.int .u8)) (hce : P.cellsOf e = 16) (hcu : P.cellsOf u = 1) (hok : Value.okWide P W r base t v) (h : DataW.Trod enc P W 0 sp hd t v d p) :
    ∃ a len cap b, v = .slice a len cap ∧ BlockI W a len cap b := by
  obtain ⟨a0, len, cap, rfl⟩ := okWide_slice ht hok
  obtain ⟨fuel, hf⟩ := h
  rcases DataW.trod_slice ht hf with ⟨hcs, _⟩ | ⟨x, l, c, elems, rest, n, _, hcs, _, hb, hl, hm, hlen, hel, _, _⟩
  · simp [Value.cells] at hcs
    obtain ⟨rfl, rfl, rfl⟩ := hcs
    exact ⟨none, 0, 0, fun _ => 0, rfl, Nat.le_refl _, by unfold maxLen; omega, .inl rfl⟩
  · simp [Value.cells] at hcs
    obtain ⟨rfl, rfl, rfl⟩ := hcs
    rcases Nat.eq_zero_or_pos len with h0 | h0
    · exact ⟨_, len, cap, fun _ => 0, rfl, hl, hm, .inl h0⟩
    · have each : ∀ i, i < len → ∀ j, j < 16 → ∃ y : UInt8, W.cell? ((x.add (i * 16)).add j) = some (.int .u8 (y.toNat : Int)) := by
        intro i hi j hj
        have h1 := hel i hi
        rw [hce, List.getElem?_eq_getElem (by omega), Option.bind_eq_some_iff] at h1
        obtain ⟨cs, hcs, hy⟩ := h1
        obtain ⟨_, _, hcell⟩ := World.cells?_some hcs
        obtain ⟨_, hby⟩ := bytes_of_trod he hu hce hcu hy
        obtain ⟨y, hy2⟩ := hby j hj
        exact ⟨y, (hcell j hj).trans hy2⟩
      obtain ⟨g, off, spot⟩ := x
      obtain ⟨y0, hy0⟩ := each 0 h0 0 (by omega)
      have hspot : spot = none := by simpa [Addr.add] using World.cell?_spot hy0
      subst hspot
      have each2 : ∀ i, i < len * 16 → ∃ y : UInt8, W.cell? ⟨g, off + i, none⟩ = some (.int .u8 (y.toNat : Int)) := by
        intro i hi
        obtain ⟨y, hy⟩ := each (i / 16) (by omega) (i % 16) (by omega)
        rw [Go.WideShapes.add_plain, Go.WideShapes.add_plain, Nat.add_assoc, show i / 16 * 16 + i % 16 = i by omega] at hy
        exact ⟨y, hy⟩
      refine ⟨_, len, cap, fun i => match W.cell? ⟨g, off + i, none⟩ with | some (.int .u8 z) => UInt8.ofNat z.toNat | _ => 0, rfl, hl, hm, .inr ⟨g, off, rfl, ?_, fun i hi => ?_⟩⟩
      · obtain ⟨y, hy⟩ := each2 0 (by omega)
        exact block_lt_of_cell hy
      · obtain ⟨y, hy⟩ := each2 i hi
        simp [hy]
end
theorem RowB.blk {w : World} {B n g : Nat} {e : TypeId} {b : Nat → UInt8} (h : RowB w B e (.slice (some ⟨g, 0, none⟩) n n) n b) : Blk w g e (byteRow (n * 16) b) := by
  rcases h.2 with ⟨e1, _⟩ | ⟨g', cap, cur, e1, _, hg, _, _, hsz, htk⟩
  · cases e1
  · injection e1 with e2 e3 e4
    injection e2 with e2
    injection e2 with e2
    subst e2 e4
    have : cur = byteRow (n * 16) b := by
      apply Array.toList_inj.1
      rw [row_list_cells, ← htk, ← hsz]
      exact (List.take_of_length_le (by simp)).symm
    rw [← this]
    exact hg
theorem Blk.rowB {w : World} {B n g : Nat} {e : TypeId} {b : Nat → UInt8} (h : Blk w g e (byteRow (n * 16) b)) (hB : B ≤ g) (hn : n ≤ 1048576) : RowB w B e (.slice (some ⟨g, 0, none⟩) n n) n b :=
  ⟨by simp, .inr ⟨g, n, byteRow (n * 16) b, rfl, hB, h, Nat.le_refl _, by unfold maxLen; omega, byteRow_size _ _, by rw [row_list_cells]; exact List.take_of_length_le (by simp)⟩⟩
theorem made_bytes (z : Value) (hz : z.cells = #[.int .u8 0, .int .u8 0, .int .u8 0, .int .u8 0, .int .u8 0, .int .u8 0, .int .u8 0, .int .u8 0, .int .u8 0, .int .u8 0, .int .u8 0, .int .u8 0, .int .u8 0, .int .u8 0, .int .u8 0, .int .u8 0]) (n : Nat) : madeCells z.cells n = byteRow n (fun _ => 0) := by
  have each : ∀ r, r < 16 → (#[.int .u8 0, .int .u8 0, .int .u8 0, .int .u8 0, .int .u8 0, .int .u8 0, .int .u8 0, .int .u8 0, .int .u8 0, .int .u8 0, .int .u8 0, .int .u8 0, .int .u8 0, .int .u8 0, .int .u8 0, .int .u8 0] : Array Value)[r]! = .int .u8 0 := by
    intro r hr
    match r, hr with
    | 0, _ | 1, _ | 2, _ | 3, _ | 4, _ | 5, _ | 6, _ | 7, _ | 8, _ | 9, _ | 10, _ | 11, _ | 12, _ | 13, _ | 14, _ | 15, _ => rfl
    | r + 16, h => exact absurd h (by omega)
  rw [hz]
  apply Array.ext_getElem?
  intro i
  unfold madeCells byteRow
  rw [rowOf_get]
  by_cases hi : i < n
  · rw [if_pos hi]
    have := each (i % 16) (by omega)
    simp [hi] at this ⊢
    exact this
  · rw [if_neg hi]
    simp; omega
section
variable {P : Program} {ops : Array Oper} {rest : List Oper} {o : Oper} {a : Act} {w : World} {Q : Exit → Act → World → Prop}
theorem wpList_makeB (hgd : o.guard = none) (l c : Operand) (t : TypeId) (ho : o.op = Op.makeSlice t l c)
    (B : Nat) (e : TypeId) (i : TypeInfo) (z : Value) (h1 : P.underlying t = some (.slice e)) (h2 : P.info? e = some i) (h3 : i.zero = some z) (h4 : i.size = 16) (h5 : i.bytes = 16)
    (hz : z.cells = #[.int .u8 0, .int .u8 0, .int .u8 0, .int .u8 0, .int .u8 0, .int .u8 0, .int .u8 0, .int .u8 0, .int .u8 0, .int .u8 0, .int .u8 0, .int .u8 0, .int .u8 0, .int .u8 0, .int .u8 0, .int .u8 0])
    (n : Nat) (hl : a.eval l = .int .i64 (n : Int)) (hc : a.eval c = .int .i64 (n : Int)) (b3 : n ≤ 1048576) (g : Nat) (hg : w.heap.size = g) (b4 : B ≤ g)
    (hK : ∀ w', Blk w' g e (byteRow (n * 16) (fun _ => 0)) → w.grownBy w' none → wpList P ops Q rest (a.put o.dst (.slice (some ⟨g, 0, none⟩) n n)) w') :
    wpList P ops Q (o :: rest) a w := by
  subst hg
  refine wpList_make_full w hgd l c t ho B e i z 16 h1 h2 h3 h4 .i64 .i64 n n n hl hc rfl rfl ?_ (by unfold maxLen; omega) b4 ?_
  · rw [h5]; omega
  · intro w' h6 h7
    refine hK w' ?_ h7
    rw [made_bytes z hz, row_list_cells] at h6
    exact RowB.blk (B := B) h6
end
theorem LB.below {w w' : World} {B : Nat} {e : TypeId} {v : Value} {l : List UInt8} (h : LB w B e v l) (hb : Below w.heap.size w w') : LB w' B e v l := by
  refine ⟨h.1, h.2.1, ?_⟩
  rcases h.2.2 with hn | ⟨g, cap, cur, hv, hB, hg, rest⟩
  · exact .inl hn
  · refine .inr ⟨g, cap, cur, hv, hB, ?_, rest⟩
    rw [hb.block g (Array.getElem?_eq_some_iff.1 hg).1]
    exact hg
def bytL (b : Nat → UInt8) (n : Nat) : List UInt8 := (List.range n).map b
theorem bytL_len (b : Nat → UInt8) (n : Nat) : (bytL b n).length = n := by unfold bytL; simp
theorem bytL_one (b : Nat → UInt8) (n : Nat) : bytL b n ++ [b n] = bytL b (n + 1) := by unfold bytL; rw [List.range_succ, List.map_append]; rfl
theorem bytL_add (b : Nat → UInt8) (n m : Nat) : bytL b n ++ (List.range m).map (fun j => b (n + j)) = bytL b (n + m) := by
  unfold bytL
  rw [List.range_add, List.map_append, List.map_map]
  rfl
theorem one_cellB {w : World} {n : Nat} {e : TypeId} {x : UInt8} (h : w.heap.size = n) : ∀ (j : Nat) (z : UInt8), [x][j]? = some z → (w.alloc (.cells #[.int .u8 (x.toNat : Int)] e)).cell? ⟨n, 0 + j, none⟩ = some (.int .u8 (z.toNat : Int)) := by
  intro j z hz
  rw [Nat.zero_add, (Blk.newAt h).cell j]
  match j, hz with
  | 0, hz => obtain rfl : x = z := by simpa using hz
             rfl
  | j + 1, hz => simp at hz
theorem bytL_row {w : World} {B n : Nat} {e : TypeId} {v : Value} {b : Nat → UInt8} (h : LB w B e v (bytL b n)) : RowF w B e v n (byt b) := by
  have h1 := h.rowF
  rw [bytL_len] at h1
  refine h1.congr fun i hi => ?_
  unfold bytL
  simp [hi, bytV, byt]
set_option maxRecDepth 100000 in
set_option maxHeartbeats 400000 in
theorem l01Data {a : Option Addr} {n cap : Nat} {b : Nat → UInt8} (w : World) (hs : BlockI w a n cap b) (hn : n ≤ 125) :
    Calls Try.prog 73 #[.slice a n cap] w fun e w' => ∃ v, e = .returned v ∧ LB w' w.heap.size 5 v (bytL b (n * 16)) ∧ Below w.heap.size w w' := by
  obtain ⟨i0, hi, hz, hsz, hby⟩ := info_parts info_byte
  have hsrc := hs.2.2
  clear hs
  go_enter Try.func73, Try.ntmps73
  go_wp2_with fail
  go_loopw [4, 3] (fun i v wr => ∃ k : Nat, k ≤ n ∧ i = .int .i64 k ∧ LB wr w.heap.size 5 v (bytL b (k * 16)) ∧ Below w.heap.size w wr)
    (fun i _ _ => n - (intOf i).toNat)
  case atStart => exact ⟨0, by omega, rfl, LB.new (by simp) (by simp), (Below.refl _ _).alloc (by omega) _⟩
  case round =>
    obtain ⟨k, hk, rfl, hl, hb⟩ := hrel
    by_cases hlt : k < n
    · have hki : (k : Int) < n := by omega
      obtain ⟨g, off, rfl, hg, hcell⟩ := hsrc.resolve_left (by omega)
      clear hsrc
      have HC := Lib.hid hcell
      clear hcell
      have Hl := Lib.hid hl; clear hl; have Hb := Lib.hid hb; clear hb
      go_wp2
      go_loopw [5, 3] (fun j v wr => ∃ j0 : Nat, j0 ≤ 16 ∧ j = .int .i64 j0 ∧ LB wr w.heap.size 5 v (bytL b (k * 16 + j0)) ∧ Below w.heap.size w wr)
        (fun j _ _ => 16 - (intOf j).toNat)
      case atStart => exact ⟨0, by omega, rfl, Hl.out, Hb.out⟩
      case round =>
        clear Hl Hb
        obtain ⟨j, hj, rfl, hl, hb⟩ := hrel
        have hsize := hb.size
        have hlen := bytL_len b (k * 16 + j)
        by_cases hjt : j < 16
        · have hji : (j : Int) < 16 := by omega
          have c0 : wr.cell? ⟨g, off + k * 16 + j, none⟩ = some (.int .u8 ((b (k * 16 + j)).toNat : Int)) := (hb.cell (p := ⟨g, off + k * 16 + j, none⟩) hg).trans (by rw [Nat.add_assoc]; exact HC.out (k * 16 + j) (by omega))
          have Hl := Lib.hid hl; clear hl; have Hb := Lib.hid hb; clear hb
          go_wp2_with (at_builtin; refine wpList_appendB rfl _ _ _ rfl w.heap.size 5 i0 Try.underlying22 hi hz hsz hby _ _ rfl (Hl.out.alloc _) _ 1 _ [b (k * 16 + j)] rfl rfl (one_cellB rfl) (by omega) (by omega) (by simp; omega) ?_; intro vy wy hl hg; have BB := Lib.hid (below_grown (Hb.out.alloc (by omega) _) hg (by simp; omega) (fun q hq => by have := (Hl.out.lt q hq).1; omega)); have LY := Lib.hid hl; clear hl hg)
          go_roundw
          case rel => exact ⟨j + 1, by omega, by go_num, by have := LY.out; rw [bytL_one] at this; exact this, BB.out⟩
          case measure => simp [intOf]; omega
        · obtain rfl : j = 16 := by omega
          have Hl := Lib.hid hl; clear hl; have Hb := Lib.hid hb; clear hb
          go_wp2
          go_roundw
          case rel => exact ⟨k + 1, by omega, by go_num, by rw [show (k + 1) * 16 = k * 16 + 16 by omega]; exact Hl.out, Hb.out⟩
          case measure => simp [intOf]; omega
    · obtain rfl : k = n := by omega
      have Hl := Lib.hid hl; clear hl; have Hb := Lib.hid hb; clear hb
      go_wp2
      go_ret
      exact ⟨_, rfl, Hl.out, Hb.out⟩
theorem row_cellsB {w : World} {g t : Nat} {b : Nat → UInt8} (h : Blk w g t (byteRow 16 b)) : ∀ (j : Nat) (y : UInt8), ((List.range 16).map b)[j]? = some y → w.cell? ⟨g, 0 + j, none⟩ = some (.int .u8 (y.toNat : Int)) := by
  intro j y hy
  rw [Nat.zero_add]
  by_cases hj : j < 16
  · rw [h.byteAt hj]
    have : b j = y := by simpa [hj] using hy
    rw [this]
  · rw [List.getElem?_eq_none (by simp; omega)] at hy
    cases hy
set_option maxRecDepth 100000 in
set_option maxHeartbeats 400000 in
theorem dataOf {a : Option Addr} {n cap : Nat} {b : Nat → UInt8} (w : World) (hs : BlockI w a n cap b) (hn : n ≤ 125) :
    Calls Try.prog 71 #[.slice a n cap] w fun e w' => ∃ v, e = .returned v ∧ LB w' w.heap.size 5 v (bytL b (n * 16)) ∧ Below w.heap.size w w' := by
  obtain ⟨i0, hi, hz, hsz, hby⟩ := info_parts info_byte
  have hsrc := hs.2.2
  clear hs
  go_enter Try.func71, Try.ntmps71
  go_wp2_with fail
  go_loopw [9, 3] (fun i v wr => ∃ k : Nat, k ≤ n ∧ i = .int .i64 k ∧ LB wr w.heap.size 5 v (bytL b (k * 16)) ∧ Below w.heap.size w wr)
    (fun i _ _ => n - (intOf i).toNat)
  case atStart => exact ⟨0, by omega, rfl, LB.new (by simp) (by simp), (Below.refl _ _).alloc (by omega) _⟩
  case round =>
    obtain ⟨k, hk, rfl, hl, hb⟩ := hrel
    have hsize := hb.size
    have hlen := bytL_len b (k * 16)
    by_cases hlt : k < n
    · have hki : (k : Int) < n := by omega
      obtain ⟨g, off, rfl, hg, hcell⟩ := hsrc.resolve_left (by omega)
      clear hsrc
      have c0 : ∀ i, i < 16 → wr.cell? ⟨g, off + k * 16 + i, none⟩ = some (.int .u8 ((b (k * 16 + i)).toNat : Int)) := fun i hi => (hb.cell (p := ⟨g, off + k * 16 + i, none⟩) hg).trans (by rw [Nat.add_assoc]; exact hcell (k * 16 + i) (by omega))
      have HC := Lib.hid c0
      clear hcell c0
      have Hl := Lib.hid hl; clear hl; have Hb := Lib.hid hb; clear hb
      obtain ⟨wo, rfl⟩ : ∃ wo : World, wo = wr := ⟨_, rfl⟩
      go_wp2_with (first | (refine wpList_loadC rfl _ _ rfl g (off + k * 16) rfl 16 (fun i => b (k * 16 + i)) HC.out Try.underlying55 rfl size55 ?_) | (refine wpList_storeNew rfl _ _ _ rfl _ rfl rfl zero16 size55 (byteRow_size _ _) (byteRow_size _ _) (byteRow_all _ _) ?_; intro wy kb hb; have kb := Lib.hid kb; have hs2 := hb.size; have RL := Lib.hid (Hl.out.below hb); have l := carryS Hb hb; clear hb) | (at_builtin; refine wpList_appendB rfl _ _ _ rfl w.heap.size 5 i0 Try.underlying22 hi hz hsz hby _ _ rfl RL.out _ 16 _ _ (by simp) rfl (row_cellsB kb.out) (by omega) (by omega) (by omega) ?_; intro vy wz hl hg; have BB := Lib.hid (below_grown l.out hg (by omega) (fun q hq => by have := (RL.out.lt q hq).1; omega)); have LY := Lib.hid hl; clear hl hg))
      go_roundw
      case rel => exact ⟨k + 1, by omega, by go_num, by have := LY.out; rw [bytL_add] at this; rw [show (k + 1) * 16 = k * 16 + 16 by omega]; exact this, BB.out⟩
      case measure => simp [intOf]; omega
    · obtain rfl : k = n := by omega
      have Hl := Lib.hid hl; clear hl; have Hb := Lib.hid hb; clear hb
      go_wp2
      go_ret
      exact ⟨_, rfl, Hl.out, Hb.out⟩
end Go.Proofs.Ytphfiekhpicpgaa
