/- Contracts: the source of a draw: made of a code, asked for numbers. No condition. -/
import Derived.Test.YtphfiekhpicpgaaRows
import Derived.Test.YtphfiekhpicpgaaLaws
import Derived.Test.YtphfiekhpicpgaaSliIn
import Derived.BigQuiet
import Derived.Deep.DeepCutAuto
import Derived.StillTailTactics
set_option linter.unusedVariables false
namespace Go.Proofs.Ytphfiekhpicpgaa
open Go.RowKit
/-- The block g holds a source of numbers whose code lies below B. -/
def Src (w : World) (B g : Nat) : Prop := B ≤ g ∧ ∃ (a : Option Addr) (n cap : Nat) (b : Nat → UInt8) (t : Nat) (h : Int), Blk w g 95 #[.slice a n cap, .int .i64 (t : Int), .int .u64 h] ∧ n ≤ 4096 ∧ t ≤ n ∧
  (n = 0 ∨ ∃ gc off, a = some ⟨gc, off, none⟩ ∧ gc < B ∧ ∀ i, i < n → w.cell? ⟨gc, off + i, none⟩ = some (.int .u8 ((b i).toNat : Int)))
theorem Src.lt {w : World} {B g : Nat} (h : Src w B g) : g < w.heap.size := by
  obtain ⟨_, _, _, _, _, _, _, hb, _⟩ := h
  exact hb.lt
theorem Src.keep {w w' : World} {B g : Nat} (h : Src w B g) (hb : Below B w w') (hg : w'.heap[g]? = w.heap[g]?) : Src w' B g := by
  obtain ⟨hB, a, n, cap, b, t, x, hk, h1, h2, h3⟩ := h
  exact ⟨hB, a, n, cap, b, t, x, hg.trans hk, h1, h2, h3.imp id fun ⟨gc, off, e, hgc, hc⟩ => ⟨gc, off, e, hgc, fun i hi => (hb.cell (p := ⟨gc, off + i, none⟩) hgc).trans (hc i hi)⟩⟩
theorem Src.below {w w' : World} {B g : Nat} (h : Src w B g) (hb : Below w.heap.size w w') : Src w' B g :=
  h.keep (hb.mono (Nat.le_of_lt (Nat.lt_of_le_of_lt h.1 h.lt))) (hb.block g h.lt)
theorem Src.grown {w w' : World} {B g : Nat} {row : Option Nat} (h : Src w B g) (hb : w.grownBy w' row) (hne : some g ≠ row) (hr : ∀ k, row = some k → B ≤ k) : Src w' B g :=
  h.keep (below_grown (Below.refl B w) hb (Nat.le_of_lt (Nat.lt_of_le_of_lt h.1 h.lt)) hr) (hb.block g h.lt hne)
theorem grown_set {w : World} {g i : Nat} {t : TypeId} {cs : Array Value} (h : Blk w g t cs) (u : Value) : w.grownBy (w.setCell ⟨g, i, none⟩ u) (some g) :=
  have hb := (Below.refl g w).setCell (p := ⟨g, i, none⟩) (Nat.le_refl g) u
  ⟨hb.os, hb.tape, hb.output, hb.size, fun k _ hne => heap_setCell_other w ⟨g, i, none⟩ k u (fun e => hne (by rw [e]))⟩
theorem grown_drewN {w w' : World} {row : Option Nat} (h : w.grownBy w' row) (k : Nat) : w.grownBy (w'.drewN k) row := ⟨h.os, h.tape, h.output, h.size, h.block⟩
theorem grown_trans {w w' w2 : World} {row : Option Nat} (h : w.grownBy w' row) (h2 : w'.grownBy w2 row) : w.grownBy w2 row := h.trans h2
theorem and_small (X : Int) : ∃ q : Nat, q < 16777216 ∧ bits .and .u64 X 16777215 = (q : Int) := by
  refine ⟨(BitVec.ofInt 64 X &&& BitVec.ofInt 64 16777215).toNat, ?_, ?_⟩
  · rw [BitVec.toNat_and]
    exact Nat.lt_of_le_of_lt Nat.and_le_right (by decide)
  · show IntKind.u64.wrap ((BitVec.ofInt 64 X &&& BitVec.ofInt 64 16777215).toNat : Int) = _
    have : (BitVec.ofInt 64 X &&& BitVec.ofInt 64 16777215).toNat < 16777216 := by
      rw [BitVec.toNat_and]
      exact Nat.lt_of_le_of_lt Nat.and_le_right (by decide)
    rw [IntKind.wrap_u64]
    omega
set_option maxRecDepth 100000 in
set_option maxHeartbeats 400000 in
theorem l01Next {w : World} {B g : Nat} (hS : Src w B g) (n : Nat) (hn : 0 < n) (hn2 : n ≤ 1000000) :
    Calls Try.prog 51 #[.pointer (some ⟨g, 0, none⟩), .int .i64 (n : Int)] w fun e w' => ∃ x : Nat, x < n ∧ e = .returned (.int .i64 (x : Int)) ∧ Src w' B g ∧ w.grownBy w' (some g) := by
  obtain ⟨hB, a, m, cap, b, t, h, hk, hm, ht, hsrc⟩ := hS
  have hni : ¬ (n : Int) < 1 := by omega
  have c2 : w.cell? ⟨g, 2, none⟩ = some (.int .u64 h) := hk.cell 2
  have f2 := hk.frozen 2
  have HK := Lib.hid hk
  clear hk
  have HS := Lib.hid hsrc
  clear hsrc
  go_enter Try.func51, Try.ntmps51
  go_upto_region 5 with fail
  obtain ⟨H, hH⟩ : ∃ H, IntKind.u64.wrap (IntKind.u64.wrap (h * 6364136223846793005) + 1442695040888963407) = H := ⟨_, rfl⟩
  obtain ⟨q, hq, hand⟩ := and_small (H / 8589934592)
  have hw64 : wrap64 (q : Int) = (q : Int) := by unfold wrap64; omega
  rw [hH, hand, hw64]
  obtain ⟨w1, hw1⟩ : ∃ w1, w.setCell ⟨g, 2, none⟩ (.int .u64 H) = w1 := ⟨_, rfl⟩
  rw [hw1]
  have G1 := Lib.hid (grown_set (i := 2) HK.out (.int .u64 H))
  have K1 := Lib.hid (HK.out.set_ 2 (.int .u64 H))
  rw [hw1] at G1 K1
  have c0 : w1.cell? ⟨g, 0, none⟩ = some (.slice a m cap) := K1.out.cell 0
  have c1 : w1.cell? ⟨g, 1, none⟩ = some (.int .i64 (t : Int)) := K1.out.cell 1
  have f1 := K1.out.frozen 1
  have bel := below_grown (Below.refl B w) G1.out (Nat.le_of_lt (Nat.lt_of_le_of_lt hB HK.out.lt)) (fun k hk => by injection hk with hk; omega)
  have HS1 : m = 0 ∨ ∃ gc off, a = some ⟨gc, off, none⟩ ∧ gc < B ∧ ∀ i, i < m → w1.cell? ⟨gc, off + i, none⟩ = some (.int .u8 ((b i).toNat : Int)) :=
    HS.out.imp id fun ⟨gc, off, e, hgc, hc⟩ => ⟨gc, off, e, hgc, fun i hi => (bel.cell (p := ⟨gc, off + i, none⟩) hgc).trans (hc i hi)⟩
  clear hH hw1 hw64 hand HK HS c2 f2 bel
  by_cases hlt : t < m
  · have hti : (t : Int) < (m : Int) := by omega
    have H1 := Lib.hid HS1
    obtain ⟨gc, off, rfl, hgc, hcell⟩ := HS1.resolve_left (by omega)
    have c3 : w1.cell? ⟨gc, off + t, none⟩ = some (.int .u8 ((b t).toNat : Int)) := hcell t hlt
    have hb256 := (b t).toNat_lt
    have e9 : ((q : Int) + ((b t).toNat : Int)).tmod (n : Int) = (((q + (b t).toNat) % n : Nat) : Int) := by
      rw [show (q : Int) + ((b t).toNat : Int) = ((q + (b t).toNat : Nat) : Int) by omega]
      rfl
    have hxl := Nat.mod_lt (q + (b t).toNat) hn
    clear hcell
    go_quiet (fail)
    obtain ⟨n1, rfl⟩ : ∃ n1 : Nat, n1 = nq := ⟨_, rfl⟩
    go_wp2
    go_quiet (fail)
    go_wp2
    go_ret
    have K2 := K1.out.drewN (n1 + nq)
    have G2 := grown_set (i := 1) K2 (.int .i64 ((t : Int) + 1))
    have G3 := grown_trans (grown_drewN G1.out (n1 + nq)) G2
    exact ⟨_, hxl, rfl, ⟨hB, _, m, cap, b, t + 1, H, K2.set_ 1 _, hm, by omega, H1.out.imp id fun ⟨gc, off, e, hgc, hc⟩ => ⟨gc, off, e, hgc, fun i hi => ((below_grown (Below.refl B _) G2 (Nat.le_of_lt (Nat.lt_of_le_of_lt hB K2.lt)) (fun k hk => by injection hk with hk; omega)).cell (p := ⟨gc, off + i, none⟩) hgc).trans (hc i hi)⟩⟩, G3⟩
  · have hti : ¬ (t : Int) < (m : Int) := by omega
    have e9 : (q : Int).tmod (n : Int) = ((q % n : Nat) : Int) := rfl
    have hxl := Nat.mod_lt q hn
    go_quiet (fail)
    go_wp2
    go_ret
    exact ⟨_, hxl, rfl, ⟨hB, a, m, cap, b, t, H, K1.out.drewN _, hm, ht, HS1⟩, grown_drewN G1.out _⟩
set_option maxRecDepth 100000 in
set_option maxHeartbeats 400000 in
theorem l01From {a : Option Addr} {n cap : Nat} {b : Nat → UInt8} (w : World) (hs : ByteS w a n cap b) (hn : n ≤ 4096) :
    Calls Try.prog 49 #[.slice a n cap] w fun e w' => ∃ g, e = .returned (.pointer (some ⟨g, 0, none⟩)) ∧ Src w' w.heap.size g ∧ Below w.heap.size w w' := by
  have hsrc := hs.2.2
  clear hs
  go_enter Try.func49, Try.ntmps49
  go_wp2_with fail
  go_loopw [4] (fun i wr => ∃ (k : Nat) (h : Int), k ≤ n ∧ i = .int .i64 k ∧ Blk wr w.heap.size 95 #[.slice a n cap, .int .i64 0, .int .u64 h] ∧ Below w.heap.size w wr)
    (fun i _ => n - (intOf i).toNat)
  case atStart => exact ⟨0, _, by omega, rfl, Blk.new w _ _, (Below.refl _ _).alloc (by omega) _⟩
  case round =>
    obtain ⟨k, h, hk, rfl, hr, hb⟩ := hrel
    by_cases hlt : k < n
    · have hki : (k : Int) < n := by omega
      have hki2 : (k : Int) < 4096 := by omega
      obtain ⟨g, off, rfl, hg, hcell⟩ := hsrc.resolve_left (by omega)
      clear hsrc
      have c0 : wr.cell? ⟨g, off + k, none⟩ = some (.int .u8 ((b k).toNat : Int)) := (hb.cell (p := ⟨g, off + k, none⟩) hg).trans (hcell k hlt)
      have c2 : wr.cell? ⟨w.heap.size, 2, none⟩ = some (.int .u64 h) := hr.cell 2
      have f2 := hr.frozen 2
      clear hcell
      have Hr := Lib.hid hr; clear hr; have Hb := Lib.hid hb; clear hb
      go_upto_region 5 with fail
      go_still_tail 15, rfl
      change wpList _ _ _ _ _ wr.drew
      go_wp2
      go_roundw
      case rel => exact ⟨k + 1, _, by omega, by go_num, Hr.out.set_ 2 _, (Hb.out.setCell (p := ⟨w.heap.size, 2, none⟩) (by show _ ≤ w.heap.size; omega) _).drew⟩
      case measure => simp [intOf]; omega
    · obtain rfl : k = n := by omega
      have hlt2 : ¬ (k : Int) < (k : Int) := by omega
      have Hr := Lib.hid hr; clear hr; have Hb := Lib.hid hb; clear hb
      go_wp2
      go_ret
      refine ⟨_, rfl, ⟨Nat.le_refl _, a, k, cap, b, 0, h, Hr.out, hn, by omega, hsrc.imp id fun ⟨gc, off, e, hgc, hc⟩ => ⟨gc, off, e, hgc, fun i hi => (Hb.out.cell (p := ⟨gc, off + i, none⟩) hgc).trans (hc i hi)⟩⟩, Hb.out⟩
/-- A row of longs that only reading wants. -/
def Lst (w : World) (q m : Nat) (f : Nat → Int) : Prop := q < w.heap.size ∧ ∀ i, i < m → w.cell? ⟨q, i, none⟩ = some (.int .i64 (f i))
theorem Lst.grown {w w' : World} {q m : Nat} {f : Nat → Int} {row : Option Nat} (h : Lst w q m f) (hg : w.grownBy w' row) (hne : some q ≠ row) : Lst w' q m f :=
  ⟨Nat.lt_of_lt_of_le h.1 hg.size, fun i hi => (World.cell?_of_block (a := ⟨q, i, none⟩) (hg.block q h.1 hne)).trans (h.2 i hi)⟩
theorem Lst.below {w w' : World} {q m : Nat} {f : Nat → Int} (h : Lst w q m f) (hb : Below w.heap.size w w') : Lst w' q m f :=
  ⟨Nat.lt_of_lt_of_le h.1 hb.size, fun i hi => (World.cell?_of_block (a := ⟨q, i, none⟩) (hb.block q h.1)).trans (h.2 i hi)⟩
set_option maxRecDepth 100000 in
set_option maxHeartbeats 400000 in
theorem l01Pick {w : World} {B g q m cap : Nat} {f : Nat → Int} (hS : Src w B g) (hL : Lst w q m f) (hne : q ≠ g) (hm : 0 < m) (hm2 : m ≤ 1000000) :
    Calls Try.prog 52 #[.pointer (some ⟨g, 0, none⟩), .slice (some ⟨q, 0, none⟩) m cap] w fun e w' => ∃ i : Nat, i < m ∧ e = .returned (.int .i64 (f i)) ∧ Src w' B g ∧ w.grownBy w' (some g) := by
  have HS := Lib.hid hS
  have HL := Lib.hid hL
  clear hS hL
  go_enter Try.func52, Try.ntmps52
  go_wp2_with fail
  refine (l01Next HS.out m hm hm2).mono ?_
  rintro e wx ⟨i, hi, rfl, hs, hg⟩
  have hl := HL.out.grown hg (fun e => hne (by injection e))
  have c0 := hl.2 i hi
  have hii : (i : Int) < (m : Int) := by omega
  have Hs := Lib.hid hs; clear hs; have Hg := Lib.hid hg; clear hg; have Hl := Lib.hid hl; clear hl
  go_wp2_with fail
  go_ret
  exact ⟨i, hi, rfl, Hs.out, Hg.out⟩
end Go.Proofs.Ytphfiekhpicpgaa
