/- Contracts: the dice of the laws: made of a code, asked for numbers. No condition. -/
import Derived.Test.YtphfiekhpicpgaaRows
import Derived.Test.YtphfiekhpicpgaaSrc
set_option linter.unusedVariables false
namespace Go.Proofs.Ytphfiekhpicpgaa
open Go.RowKit
/-- The block g holds dice whose code lies below B. -/
def Dic (w : World) (B g : Nat) : Prop := B ≤ g ∧ ∃ (a : Option Addr) (n cap : Nat) (b : Nat → UInt8) (t : Nat) (h : Int), Blk w g 82 #[.slice a n cap, .int .i64 (t : Int), .int .u64 h] ∧ n ≤ 4096 ∧ t ≤ n ∧
  (n = 0 ∨ ∃ gc off, a = some ⟨gc, off, none⟩ ∧ gc < B ∧ ∀ i, i < n → w.cell? ⟨gc, off + i, none⟩ = some (.int .u8 ((b i).toNat : Int)))
theorem Dic.lt {w : World} {B g : Nat} (h : Dic w B g) : g < w.heap.size := by
  obtain ⟨_, _, _, _, _, _, _, hb, _⟩ := h
  exact hb.lt
theorem Dic.keep {w w' : World} {B g : Nat} (h : Dic w B g) (hb : Below B w w') (hg : w'.heap[g]? = w.heap[g]?) : Dic w' B g := by
  obtain ⟨hB, a, n, cap, b, t, x, hk, h1, h2, h3⟩ := h
  exact ⟨hB, a, n, cap, b, t, x, hg.trans hk, h1, h2, h3.imp id fun ⟨gc, off, e, hgc, hc⟩ => ⟨gc, off, e, hgc, fun i hi => (hb.cell (p := ⟨gc, off + i, none⟩) hgc).trans (hc i hi)⟩⟩
theorem Dic.below {w w' : World} {B g : Nat} (h : Dic w B g) (hb : Below w.heap.size w w') : Dic w' B g :=
  h.keep (hb.mono (Nat.le_of_lt (Nat.lt_of_le_of_lt h.1 h.lt))) (hb.block g h.lt)
set_option maxRecDepth 100000 in
set_option maxHeartbeats 400000 in
theorem diceBelow {w : World} {B g : Nat} (hS : Dic w B g) (n : Nat) (hn : 0 < n) (hn2 : n ≤ 1000000) :
    Calls Try.prog 14 #[.pointer (some ⟨g, 0, none⟩), .int .i64 (n : Int)] w fun e w' => ∃ x : Nat, x < n ∧ e = .returned (.int .i64 (x : Int)) ∧ Dic w' B g ∧ w.grownBy w' (some g) := by
  obtain ⟨hB, a, m, cap, b, t, h, hk, hm, ht, hsrc⟩ := hS
  have hni : ¬ (n : Int) < 1 := by omega
  have c2 : w.cell? ⟨g, 2, none⟩ = some (.int .u64 h) := hk.cell 2
  have f2 := hk.frozen 2
  have HK := Lib.hid hk
  clear hk
  have HS := Lib.hid hsrc
  clear hsrc
  go_enter Try.func14, Try.ntmps14
  go_upto_region 5 with fail
  obtain ⟨H, hH⟩ : ∃ H, IntKind.u64.wrap (IntKind.u64.wrap (h * 6364136223846793005) + 1442695040888963407) = H := ⟨_, rfl⟩
  obtain ⟨q, hq, hand⟩ := and_small (H / 8589934592)
  have hw64 : wrap64 (q : Int) = (q : Int) := by unfold wrap64; omega
  rw [hH, hand, hw64]
  obtain ⟨w1, hw1⟩ : ∃ w1, w.setCell ⟨g, 2, none⟩ (.int .u64 H) = w1 := ⟨_, rfl⟩
  rw [hw1]
  have G1 := Lib.hid (grown_set (i := 2) HK.out (.int .u64 H))
  have K1 := Lib.hid (HK.out.set_ 2 (.int .u64 H))
  rw [hw1] at G1 K1
  have c0 : w1.cell? ⟨g, 0, none⟩ = some (.slice a m cap) := K1.out.cell 0
  have c1 : w1.cell? ⟨g, 1, none⟩ = some (.int .i64 (t : Int)) := K1.out.cell 1
  have f1 := K1.out.frozen 1
  have bel := below_grown (Below.refl B w) G1.out (Nat.le_of_lt (Nat.lt_of_le_of_lt hB HK.out.lt)) (fun k hk => by injection hk with hk; omega)
  have HS1 : m = 0 ∨ ∃ gc off, a = some ⟨gc, off, none⟩ ∧ gc < B ∧ ∀ i, i < m → w1.cell? ⟨gc, off + i, none⟩ = some (.int .u8 ((b i).toNat : Int)) :=
    HS.out.imp id fun ⟨gc, off, e, hgc, hc⟩ => ⟨gc, off, e, hgc, fun i hi => (bel.cell (p := ⟨gc, off + i, none⟩) hgc).trans (hc i hi)⟩
  clear hH hw1 hw64 hand HK HS c2 f2 bel
  by_cases hlt : t < m
  · have hti : (t : Int) < (m : Int) := by omega
    have H1 := Lib.hid HS1
    obtain ⟨gc, off, rfl, hgc, hcell⟩ := HS1.resolve_left (by omega)
    have c3 : w1.cell? ⟨gc, off + t, none⟩ = some (.int .u8 ((b t).toNat : Int)) := hcell t hlt
    have hb256 := (b t).toNat_lt
    have e9 : ((q : Int) + ((b t).toNat : Int)).tmod (n : Int) = (((q + (b t).toNat) % n : Nat) : Int) := by
      rw [show (q : Int) + ((b t).toNat : Int) = ((q + (b t).toNat : Nat) : Int) by omega]
      rfl
    have hxl := Nat.mod_lt (q + (b t).toNat) hn
    clear hcell
    go_quiet (fail)
    obtain ⟨n1, rfl⟩ : ∃ n1 : Nat, n1 = nq := ⟨_, rfl⟩
    go_wp2
    go_quiet (fail)
    go_wp2
    go_ret
    have K2 := K1.out.drewN (n1 + nq)
    have G2 := grown_set (i := 1) K2 (.int .i64 ((t : Int) + 1))
    have G3 := grown_trans (grown_drewN G1.out (n1 + nq)) G2
    exact ⟨_, hxl, rfl, ⟨hB, _, m, cap, b, t + 1, H, K2.set_ 1 _, hm, by omega, H1.out.imp id fun ⟨gc, off, e, hgc, hc⟩ => ⟨gc, off, e, hgc, fun i hi => ((below_grown (Below.refl B _) G2 (Nat.le_of_lt (Nat.lt_of_le_of_lt hB K2.lt)) (fun k hk => by injection hk with hk; omega)).cell (p := ⟨gc, off + i, none⟩) hgc).trans (hc i hi)⟩⟩, G3⟩
  · have hti : ¬ (t : Int) < (m : Int) := by omega
    have e9 : (q : Int).tmod (n : Int) = ((q % n : Nat) : Int) := rfl
    have hxl := Nat.mod_lt q hn
    go_quiet (fail)
    go_wp2
    go_ret
    exact ⟨_, hxl, rfl, ⟨hB, a, m, cap, b, t, H, K1.out.drewN _, hm, ht, HS1⟩, grown_drewN G1.out _⟩
set_option maxRecDepth 100000 in
set_option maxHeartbeats 400000 in
theorem lawsRoll {a : Option Addr} {n cap : Nat} {b : Nat → UInt8} (seed : Nat) (w : World) (hs : ByteS w a n cap b) (hn : n ≤ 4096) :
    Calls Try.prog 13 #[.slice a n cap, .int .u64 (seed : Int)] w fun e w' => ∃ g, e = .returned (.pointer (some ⟨g, 0, none⟩)) ∧ Dic w' w.heap.size g ∧ Below w.heap.size w w' := by
  have hsrc := hs.2.2
  clear hs
  go_enter Try.func13, Try.ntmps13
  go_wp2_with fail
  go_loopw [6] (fun i wr => ∃ (k : Nat) (h : Int), k ≤ n ∧ i = .int .i64 k ∧ Blk wr w.heap.size 82 #[.slice a n cap, .int .i64 0, .int .u64 h] ∧ Below w.heap.size w wr)
    (fun i _ => n - (intOf i).toNat)
  case atStart => exact ⟨0, _, by omega, rfl, Blk.new w _ _, (Below.refl _ _).alloc (by omega) _⟩
  case round =>
    obtain ⟨k, h, hk, rfl, hr, hb⟩ := hrel
    by_cases hlt : k < n
    · have hki : (k : Int) < n := by omega
      obtain ⟨g, off, rfl, hg, hcell⟩ := hsrc.resolve_left (by omega)
      clear hsrc
      have c0 : wr.cell? ⟨g, off + k, none⟩ = some (.int .u8 ((b k).toNat : Int)) := (hb.cell (p := ⟨g, off + k, none⟩) hg).trans (hcell k hlt)
      have c2 : wr.cell? ⟨w.heap.size, 2, none⟩ = some (.int .u64 h) := hr.cell 2
      have f2 := hr.frozen 2
      clear hcell
      have Hr := Lib.hid hr; clear hr; have Hb := Lib.hid hb; clear hb
      go_upto_region 5 with fail
      go_still_tail 15, rfl
      change wpList _ _ _ _ _ wr.drew
      go_wp2
      go_roundw
      case rel => exact ⟨k + 1, _, by omega, by go_num, Hr.out.set_ 2 _, (Hb.out.setCell (p := ⟨w.heap.size, 2, none⟩) (by show _ ≤ w.heap.size; omega) _).drew⟩
      case measure => simp [intOf]; omega
    · obtain rfl : k = n := by omega
      have hlt2 : ¬ (k : Int) < (k : Int) := by omega
      have Hr := Lib.hid hr; clear hr; have Hb := Lib.hid hb; clear hb
      go_wp2
      go_ret
      refine ⟨_, rfl, ⟨Nat.le_refl _, a, k, cap, b, 0, h, Hr.out, hn, by omega, hsrc.imp id fun ⟨gc, off, e, hgc, hc⟩ => ⟨gc, off, e, hgc, fun i hi => (Hb.out.cell (p := ⟨gc, off + i, none⟩) hgc).trans (hc i hi)⟩⟩, Hb.out⟩
end Go.Proofs.Ytphfiekhpicpgaa
