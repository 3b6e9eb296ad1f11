/- Contracts: fixed points and differences, by the program and by the reference. No condition. -/
import Derived.Test.YtoijoogonajopaaRows
import Derived.Test.YtoijoogonajopaaSlices
import Derived.Test.YtoijoogonajopaaLaws
import Derived.Test.YtoijoogonajopaaPerm
namespace Go.Proofs.Ytoijoogonajopaa
open Go.RowKit
def fixTo (b : Nat → UInt8) : Nat → List Int
  | 0 => []
  | k + 1 => if (b k).toNat = k then fixTo b k ++ [(k : Int)] else fixTo b k
theorem fixTo_len (b : Nat → UInt8) : ∀ k, (fixTo b k).length ≤ k
  | 0 => Nat.le_refl _
  | k + 1 => by
    have := fixTo_len b k
    unfold fixTo
    split
    · simp; omega
    · omega
set_option maxRecDepth 100000 in
set_option maxHeartbeats 400000 in
theorem specFixedPointsOf (b : Nat → UInt8) (w : World) :
    Calls Try.prog 18 #[.agg (byteRow 256 b)] w fun e w' => ∃ v, e = .returned v ∧ LL w' (w.heap.size + 1) 2 v (fixTo b 256) ∧ Below w.heap.size w w' := by
  obtain ⟨i0, hi, hz, hsz, hby⟩ := info_parts info_long
  go_enter Try.func18, Try.ntmps18
  go_wp2
  go_loopw [4, 3] (fun i v wr => ∃ k : Nat, k ≤ 256 ∧ i = .int .i64 k ∧ LL wr (w.heap.size + 1) 2 v (fixTo b k) ∧ Blk wr w.heap.size 25 (byteRow 256 b) ∧ Below w.heap.size w wr)
    (fun i _ _ => 256 - (intOf i).toNat)
  case atStart => exact ⟨0, by omega, rfl, LL.new (by simp) (by simp), (Blk.new w _ _).alloc _, ((Below.refl _ _).alloc (by omega) _).alloc (by simp) _⟩
  case round =>
    obtain ⟨k, hk, rfl, hl, h0, hb⟩ := hrel
    by_cases hlt : k < 256
    · have hki : (k : Int) < 256 := by omega
      have c0 := h0.byteAt hlt
      have hlen := fixTo_len b k
      have hsize := hb.size
      have Hl := Lib.hid hl; clear hl; have H0 := Lib.hid h0; clear h0; have Hb := Lib.hid hb; clear hb
      by_cases ht : (b k).toNat = k
      · have e1 : (((b k).toNat : Int) == (k : Int)) = true := by rw [beq_iff_eq]; omega
        have hfx : fixTo b (k + 1) = fixTo b k ++ [(k : Int)] := by show (if _ then _ else _) = _; rw [if_pos ht]
        have Hfx := Lib.hid hfx; clear hfx
        go_wp2_with (at_builtin; refine wpList_appendL rfl _ _ _ rfl (w.heap.size + 1) 2 i0 Try.underlying28 hi hz hsz hby _ _ rfl (Hl.out.alloc _) _ _ (k : Int) rfl (cell_new1 rfl) (by omega) (by have := Hb.out.size; simp; omega) ?_; intro vy wy hl hg; have BB := Lib.hid (below_grown (Hb.out.alloc (by omega) _) hg (by have := Hb.out.size; simp; omega) (fun q hq => by have := (Hl.out.lt q hq).1; omega)); have H0' := Lib.hid ((H0.out.alloc _).grown hg (fun hq => by have := (Hl.out.lt _ hq.symm).1; omega)); have LY := Lib.hid hl; clear hl hg)
        go_roundw
        case rel => exact ⟨k + 1, by omega, by go_num, by rw [Hfx.out]; exact LY.out, H0'.out, BB.out⟩
        case measure => simp [intOf]; omega
      · have e1 : (((b k).toNat : Int) == (k : Int)) = false := by rw [beq_eq_false_iff_ne]; omega
        have hfx : fixTo b (k + 1) = fixTo b k := by show (if _ then _ else _) = _; rw [if_neg ht]
        have Hfx := Lib.hid hfx; clear hfx
        go_wp2_with fail
        go_roundw
        case rel => exact ⟨k + 1, by omega, by go_num, by rw [Hfx.out]; exact Hl.out, H0.out, Hb.out⟩
        case measure => simp [intOf]; omega
    · obtain rfl : k = 256 := by omega
      have Hl := Lib.hid hl; clear hl; have H0 := Lib.hid h0; clear h0; have Hb := Lib.hid hb; clear hb
      go_wp2
      go_ret
      exact ⟨_, rfl, Hl.out, Hb.out⟩
set_option maxRecDepth 100000 in
set_option maxHeartbeats 400000 in
theorem implFixedPointsOf (b : Nat → UInt8) (w : World) :
    Calls Try.prog 17 #[.agg (byteRow 256 b)] w fun e w' => ∃ v, e = .returned v ∧ LL w' (w.heap.size + 1) 2 v (fixTo b 256) ∧ Below w.heap.size w w' := by
  obtain ⟨i0, hi, hz, hsz, hby⟩ := info_parts info_long
  go_enter Try.func17, Try.ntmps17
  have k0 := Lib.hid ((Blk.new w 25 (byteRow 256 b)).alloc (.cells #[] 2))
  go_wp2_with (refine wpList_loadH rfl _ _ rfl _ rfl (by assumption) Try.underlying25 rfl size25 (byteRow_size _ _) ?_)
  go_loopw [8, 3] (fun i v wr => ∃ k : Nat, k ≤ 256 ∧ i = .int .i64 k ∧ LL wr (w.heap.size + 1) 2 v (fixTo b k) ∧ Below w.heap.size w wr)
    (fun i _ _ => 256 - (intOf i).toNat)
  case atStart => exact ⟨0, by omega, rfl, LL.new (by simp) (by simp), ((Below.refl _ _).alloc (by omega) _).alloc (by simp) _⟩
  case round =>
    obtain ⟨k, hk, rfl, hl, hb⟩ := hrel
    by_cases hlt : k < 256
    · have hki : (k : Int) < 256 := by omega
      have ix := fun (w : World) => run_index_row (w := w) .i64 Try.underlying25 sizeU1 (.inl Try.underlying5) hlt (byteRow_at b hlt)
      have hlen := fixTo_len b k
      have hsize := hb.size
      have Hl := Lib.hid hl; clear hl; have Hb := Lib.hid hb; clear hb
      by_cases ht : (b k).toNat = k
      · have e1 : ((k : Int) == ((b k).toNat : Int)) = true := by rw [beq_iff_eq]; omega
        have hfx : fixTo b (k + 1) = fixTo b k ++ [(k : Int)] := by show (if _ then _ else _) = _; rw [if_pos ht]
        have Hfx := Lib.hid hfx; clear hfx
        go_wp2_with (at_builtin; refine wpList_appendL rfl _ _ _ rfl (w.heap.size + 1) 2 i0 Try.underlying28 hi hz hsz hby _ _ rfl (Hl.out.alloc _) _ _ (k : Int) rfl (cell_new1 rfl) (by omega) (by have := Hb.out.size; simp; omega) ?_; intro vy wy hl hg; have BB := Lib.hid (below_grown (Hb.out.alloc (by omega) _) hg (by have := Hb.out.size; simp; omega) (fun q hq => by have := (Hl.out.lt q hq).1; omega)); have LY := Lib.hid hl; clear hl hg)
        go_roundw
        case rel => exact ⟨k + 1, by omega, by go_num, by rw [Hfx.out]; exact LY.out, BB.out⟩
        case measure => simp [intOf]; omega
      · have e1 : ((k : Int) == ((b k).toNat : Int)) = false := by rw [beq_eq_false_iff_ne]; omega
        have hfx : fixTo b (k + 1) = fixTo b k := by show (if _ then _ else _) = _; rw [if_neg ht]
        have Hfx := Lib.hid hfx; clear hfx
        go_wp2_with fail
        go_roundw
        case rel => exact ⟨k + 1, by omega, by go_num, by rw [Hfx.out]; exact Hl.out, Hb.out⟩
        case measure => simp [intOf]; omega
    · obtain rfl : k = 256 := by omega
      have Hl := Lib.hid hl; clear hl; have Hb := Lib.hid hb; clear hb
      go_wp2
      go_ret
      exact ⟨_, rfl, Hl.out, Hb.out⟩
/-- how many of the first k places have the difference -/
def diffTo (b : Nat → UInt8) (d : UInt8) : Nat → Nat → Int
  | 0 => fun _ => 0
  | k + 1 => upd (diffTo b d k) (b k ^^^ b (UInt8.ofNat k ^^^ d).toNat).toNat (diffTo b d k (b k ^^^ b (UInt8.ofNat k ^^^ d).toNat).toNat + 1)
theorem diffTo_le (b : Nat → UInt8) (d : UInt8) : ∀ (k i : Nat), 0 ≤ diffTo b d k i ∧ diffTo b d k i ≤ k
  | 0, _ => ⟨Int.le_refl 0, Int.le_refl 0⟩
  | k + 1, i => by
    unfold diffTo upd
    have h1 := diffTo_le b d k i
    have h2 := diffTo_le b d k (b k ^^^ b (UInt8.ofNat k ^^^ d).toNat).toNat
    split <;> omega
theorem specFixedRow (b : Nat → UInt8) (w : World) :
    Calls Try.prog 18 #[.agg (byteRow 256 b)] w fun e w' => ∃ v, e = .returned v ∧ RowF w' (w.heap.size + 1) 2 v (fixTo b 256).length (lng (fun i => (fixTo b 256).getD i 0)) ∧ Below w.heap.size w w' :=
  (specFixedPointsOf b w).mono fun _ _ ⟨v, h1, h2, h3⟩ => ⟨v, h1, h2.rowF, h3⟩
theorem implFixedRow (b : Nat → UInt8) (w : World) :
    Calls Try.prog 17 #[.agg (byteRow 256 b)] w fun e w' => ∃ v, e = .returned v ∧ RowF w' (w.heap.size + 1) 2 v (fixTo b 256).length (lng (fun i => (fixTo b 256).getD i 0)) ∧ Below w.heap.size w w' :=
  (implFixedPointsOf b w).mono fun _ _ ⟨v, h1, h2, h3⟩ => ⟨v, h1, h2.rowF, h3⟩
end Go.Proofs.Ytoijoogonajopaa
