/- Contracts: the blocks of bytes, by the program and by the reference. No condition. -/
import Derived.Test.YtnkfghoajpghkaaRows
import Derived.Test.YtnkfghoajpghkaaLaws
import Derived.Test.YtnkfghoajpghkaaSliB
import Derived.Test.YtnkfghoajpghkaaSliIn
import Derived.Laws.Cover3
set_option linter.unusedVariables false
namespace Go.Proofs.Ytnkfghoajpghkaa
open Go.RowKit
theorem info_blk : (Try.prog.info? 89).map (fun i => (i.zero, i.size, i.bytes)) = some (some (.agg #[.int .u8 0, .int .u8 0, .int .u8 0, .int .u8 0, .int .u8 0, .int .u8 0, .int .u8 0, .int .u8 0, .int .u8 0, .int .u8 0, .int .u8 0, .int .u8 0, .int .u8 0, .int .u8 0, .int .u8 0, .int .u8 0]), 16, 16) := by kernel_rfl
theorem builtK : Try.prog.built 89 [] = some (byteRow 16 (fun _ => 0)) := by kernel_rfl
theorem RowB.apart {w : World} {B n g : Nat} {e : TypeId} {v : Value} {b : Nat → UInt8} (h : RowB w B e v n b) (hg : w.heap.size ≤ g) : v.ownBlock ≠ some g := fun e => by
  have := (h.lt g e).2
  omega
theorem RowB.far {w : World} {B n : Nat} {e : TypeId} {v : Value} {b : Nat → UInt8} (h : RowB w B e v n b) {p : Addr} (hp : v.ownBlock ≠ some p.block) (u : Value) : RowB (w.setCell p u) B e v n b := by
  refine ⟨h.1, ?_⟩
  rcases h.2 with hn | ⟨g, cap, cur, rfl, hB, hg, rest⟩
  · exact .inl hn
  · refine .inr ⟨g, cap, cur, rfl, hB, ?_, rest⟩
    rw [heap_setCell_other w p g u (fun e => hp (by rw [← e]; rfl))]
    exact hg
theorem cells_fold (f : Nat → UInt8) : Array.foldl (fun (cs : Array Value) (x : Value × Nat) => cs.setIfInBounds x.snd x.fst) #[.int .u8 0, .int .u8 0, .int .u8 0, .int .u8 0, .int .u8 0, .int .u8 0, .int .u8 0, .int .u8 0, .int .u8 0, .int .u8 0, .int .u8 0, .int .u8 0, .int .u8 0, .int .u8 0, .int .u8 0, .int .u8 0] (byteRow 16 f).zipIdx 0 (byteRow 16 f).size = byteRow 16 f := by
  kernel_rfl
theorem cells_of {w : World} {n q : Nat} {e : TypeId} {b : Nat → UInt8} (h : w.heap.size = n) : ∀ j, j < 16 → (w.alloc (.cells (Array.foldl (fun (cs : Array Value) (x : Value × Nat) => cs.setIfInBounds x.snd x.fst) #[.int .u8 0, .int .u8 0, .int .u8 0, .int .u8 0, .int .u8 0, .int .u8 0, .int .u8 0, .int .u8 0, .int .u8 0, .int .u8 0, .int .u8 0, .int .u8 0, .int .u8 0, .int .u8 0, .int .u8 0, .int .u8 0] (byteRow 16 (fun i => b (q + i))).zipIdx 0 (byteRow 16 (fun i => b (q + i))).size) e)).cell? ⟨n, j, none⟩ = some (.int .u8 ((b (q + j)).toNat : Int)) := fun j hj => ((Blk.newAt h).eq_ (cells_fold _)).byteAt hj
section
variable {P : Program} {ops : Array Oper} {rest : List Oper} {o : Oper} {a : Act} {w : World} {Q : Exit → Act → World → Prop}
theorem wpList_arrayAt (hgd : o.guard = none) (t : TypeId) (x : Operand) (ho : o.op = .sliceToArrayPointer t x) {e : TypeId} {n len cap : Nat} {p : Option Addr} (ht : P.underlying t = some (.array n e)) (hx : a.eval x = .slice p len cap) (hn : n ≤ len)
    (h : wpList P ops Q rest (a.put o.dst (.pointer p)) w) : wpList P ops Q (o :: rest) a w := by
  refine wpList_plain hgd fun K hK => ?_
  have hr := run_arrayAt (P := P) (w := w) t e n p len cap ht hn
  unfold Oper.wp execOp
  simp only [ho, hx]
  simp only [Sem.run_bind, hr, Result.andThen_ok, Sem.run_pure]
  exact hK _ _ h
end
set_option maxRecDepth 100000 in
set_option maxHeartbeats 400000 in
theorem l01Blocks {a : Option Addr} {n cap m : Nat} {b : Nat → UInt8} (w : World) (hs : ByteS w a n cap b) (hn : n = m * 16) (hm : m ≤ 125) :
    Calls Try.prog 68 #[.slice a n cap] w fun e w' => ∃ v, e = .returned v ∧ RowB w' w.heap.size 89 v m b ∧ Below w.heap.size w w' := by
  obtain ⟨i0, hi, hz, hsz, hby⟩ := info_parts info_blk
  have hsrc := hs.2.2
  clear hs
  have HN := Lib.hid hn
  clear hn
  go_enter Try.func68, Try.ntmps68
  go_wp2_with fail
  go_loopw [4, 3] (fun i v wr => ∃ k : Nat, k ≤ m ∧ i = .int .i64 ((k * 16 : Nat) : Int) ∧ RowB wr w.heap.size 89 v k b ∧ Below w.heap.size w wr)
    (fun i _ _ => 2001 - (intOf i).toNat)
  case atStart => exact ⟨0, by omega, rfl, RowB.new (by simp) (by simp), (Below.refl _ _).alloc (by omega) _⟩
  case round =>
    obtain ⟨k, hk, rfl, hl, hb⟩ := hrel
    have hsize := hb.size
    obtain ⟨q, hq⟩ : ∃ q, k * 16 = q := ⟨_, rfl⟩
    by_cases hlt : k < m
    · have hq2 : (q : Int) + 16 ≤ (n : Int) := by have := HN.out; omega
      have hq0 : q ≤ 2000 := by omega
      obtain ⟨g, off, rfl, hg, hcell⟩ := hsrc.resolve_left (by have := HN.out; omega)
      clear hsrc
      have hap := hl.apart (Nat.le_refl _)
      have HC := Lib.hid hcell
      clear hcell
      rw [hq]
      have Hl := Lib.hid hl; clear hl; have Hb := Lib.hid hb; clear hb; have Hap := Lib.hid hap; clear hap; have Hq := Lib.hid hq; clear hq
      obtain ⟨wo, rfl⟩ : ∃ wo : World, wo = wr := ⟨_, rfl⟩
      obtain ⟨v, rfl⟩ : ∃ v : Value, v = u3 := ⟨_, rfl⟩
      go_wp2_with (first | (refine wpList_buildZ rfl _ rfl builtK ?_) | (refine wpList_storeNew rfl _ _ _ rfl _ rfl rfl zero16 size89 (byteRow_size _ _) (byteRow_size _ _) (byteRow_all _ _) ?_; intro wy kb hb; have kb := Lib.hid kb; have RL := Lib.hid (Hl.out.below hb (Nat.le_refl _)); have l := carryS Hb hb; clear hb))
      go_loopw [6] (fun j wr => ∃ j0 : Nat, j0 ≤ 16 ∧ j = .int .i64 j0 ∧ RowB wr w.heap.size 89 v k b ∧ Blk wr wo.heap.size 89 (byteRow 16 (fun i => if i < j0 then b (q + i) else 0)) ∧ Below w.heap.size w wr)
        (fun j _ => 16 - (intOf j).toNat)
      case atStart => exact ⟨0, by omega, rfl, RL.out, kb.out.eq_ (byteRow_none _ _ _), l.out⟩
      case round =>
        clear RL l kb Hl Hb
        obtain ⟨j, hj, rfl, hl, hv, hb⟩ := hrel
        by_cases hjt : j < 16
        · have hji : (j : Int) < 16 := by omega
          have c0 : wr.cell? ⟨g, off + (q + j), none⟩ = some (.int .u8 ((b (q + j)).toNat : Int)) := (hb.cell (p := ⟨g, off + (q + j), none⟩) hg).trans (HC.out (q + j) (by omega))
          have c1 := hv.byteAt hjt
          have f1 := hv.frozen j
          have Hl := Lib.hid hl; clear hl; have Hv := Lib.hid hv; clear hv; have Hb := Lib.hid hb; clear hb
          go_wp2
          go_roundw
          case rel => exact ⟨j + 1, by omega, by go_num, Hl.out.far (p := ⟨wo.heap.size, j, none⟩) Hap.out _, (Hv.out.bytePut j _).eq_ (by rw [upd_fill (fun i => b (q + i))]), Hb.out.setCell (p := ⟨wo.heap.size, j, none⟩) (by show _ ≤ wo.heap.size; omega) _⟩
          case measure => simp [intOf]; omega
        · obtain rfl : j = 16 := by omega
          have hv := hv.eq_ (byteRow_full (fun i => b (q + i)) _ hjt)
          have hsz2 := hb.size
          have bs := byteRow_size 16 (fun i => b (q + i))
          have Hl := Lib.hid hl; clear hl; have Hv := Lib.hid hv; clear hv; have Hb := Lib.hid hb; clear hb
          go_wp2_with (first | (refine wpList_loadR rfl _ _ rfl _ rfl Hv.out Try.underlying89 rfl size89 (byteRow_size _ _) ?_) | (at_builtin; refine wpList_appendK rfl _ _ _ rfl w.heap.size 89 i0 _ Try.underlying50 hi hz rfl hsz hby _ _ b rfl (Hl.out.alloc _) _ _ rfl (by rw [Hq.out]; exact cells_of rfl) (by omega) (by simp; omega) ?_; intro vy wy hl hg; have BB := Lib.hid (below_grown (Hb.out.alloc (by omega) _) hg (by simp; omega) (fun q hq => by have := (Hl.out.lt q hq).1; omega)); have LY := Lib.hid hl; clear hl hg))
          go_roundw
          case rel => exact ⟨k + 1, by omega, by have := Hq.out; go_num, LY.out, BB.out⟩
          case measure => simp [intOf]; omega
    · obtain rfl : k = m := by omega
      have hq2 : ¬ (q : Int) + 16 ≤ (n : Int) := by have := HN.out; omega
      rw [hq]
      have Hl := Lib.hid hl; clear hl; have Hb := Lib.hid hb; clear hb
      go_wp2
      go_ret
      exact ⟨_, rfl, Hl.out, Hb.out⟩
set_option maxRecDepth 100000 in
set_option maxHeartbeats 400000 in
theorem blocksOf {a : Option Addr} {n cap m : Nat} {b : Nat → UInt8} (w : World) (hs : ByteS w a n cap b) (hn : n = m * 16) (hm : m ≤ 125) :
    Calls Try.prog 69 #[.slice a n cap] w fun e w' => ∃ v, e = .returned v ∧ RowB w' w.heap.size 89 v m b ∧ Below w.heap.size w w' := by
  obtain ⟨i0, hi, hz, hsz, hby⟩ := info_parts info_blk
  have hsrc := hs.2.2
  have hnc := hs.1
  clear hs
  have HN := Lib.hid hn
  clear hn
  go_enter Try.func69, Try.ntmps69
  go_wp2_with fail
  go_loopw [4, 3] (fun i v wr => ∃ k : Nat, k ≤ m ∧ i = .int .i64 ((k * 16 : Nat) : Int) ∧ RowB wr w.heap.size 89 v k b ∧ Below w.heap.size w wr)
    (fun i _ _ => 2001 - (intOf i).toNat)
  case atStart => exact ⟨0, by omega, rfl, RowB.new (by simp) (by simp), (Below.refl _ _).alloc (by omega) _⟩
  case round =>
    obtain ⟨k, hk, rfl, hl, hb⟩ := hrel
    have hsize := hb.size
    obtain ⟨q, hq⟩ : ∃ q, k * 16 = q := ⟨_, rfl⟩
    by_cases hlt : k < m
    · have hq2 : (q : Int) < (n : Int) := by have := HN.out; omega
      have hq3 : q + 16 ≤ n := by have := HN.out; omega
      have hq4 : q + 16 ≤ cap := by omega
      have hq0 : q ≤ 2000 := by omega
      obtain ⟨g, off, rfl, hg, hcell⟩ := hsrc.resolve_left (by have := HN.out; omega)
      clear hsrc
      have c0 : ∀ i, i < 16 → wr.cell? ⟨g, off + q + i, none⟩ = some (.int .u8 ((b (q + i)).toNat : Int)) := fun i hi => (hb.cell (p := ⟨g, off + q + i, none⟩) hg).trans (by rw [Nat.add_assoc]; exact hcell (q + i) (by omega))
      have HC := Lib.hid c0
      have bs := byteRow_size 16 (fun i => b (q + i))
      clear hcell c0
      rw [hq]
      have Hl := Lib.hid hl; clear hl; have Hb := Lib.hid hb; clear hb; have Hq := Lib.hid hq; clear hq
      go_wp2_with (first | (at_builtin; refine wpList_appendK rfl _ _ _ rfl w.heap.size 89 i0 _ Try.underlying50 hi hz rfl hsz hby _ _ b rfl (Hl.out.alloc _) _ _ rfl (by rw [Hq.out]; exact cells_of rfl) (by omega) (by simp; omega) ?_; intro vy wy hl hg; have BB := Lib.hid (below_grown (Hb.out.alloc (by omega) _) hg (by simp; omega) (fun q hq => by have := (Hl.out.lt q hq).1; omega)); have LY := Lib.hid hl; clear hl hg) | (refine wpList_arrayAt rfl _ _ rfl Try.underlying89 rfl (by omega) ?_) | (refine wpList_loadC rfl _ _ rfl g (off + q) rfl 16 (fun i => b (q + i)) HC.out Try.underlying89 rfl size89 ?_))
      go_roundw
      case rel => exact ⟨k + 1, by omega, by have := Hq.out; go_num, LY.out, BB.out⟩
      case measure => simp [intOf]; omega
    · obtain rfl : k = m := by omega
      have hq2 : ¬ (q : Int) < (n : Int) := by have := HN.out; omega
      rw [hq]
      have Hl := Lib.hid hl; clear hl; have Hb := Lib.hid hb; clear hb
      go_wp2
      go_ret
      exact ⟨_, rfl, Hl.out, Hb.out⟩
end Go.Proofs.Ytnkfghoajpghkaa
