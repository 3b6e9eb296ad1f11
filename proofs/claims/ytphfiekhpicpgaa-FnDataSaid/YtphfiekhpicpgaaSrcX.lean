/- Contract: the source of a draw asked for a number, with its state told. No condition. -/
import Derived.Test.YtphfiekhpicpgaaRows
import Derived.Test.YtphfiekhpicpgaaSrc
import Derived.Test.YtphfiekhpicpgaaLcg
set_option linter.unusedVariables false
namespace Go.Proofs.Ytphfiekhpicpgaa
open Go.RowKit
/-- A source whose place in the code is t of n, and whose state is h. -/
def SrcAt (w : World) (B g n t : Nat) (h : Int) : Prop := B ≤ g ∧ ∃ (a : Option Addr) (cap : Nat) (b : Nat → UInt8), Blk w g 95 #[.slice a n cap, .int .i64 (t : Int), .int .u64 h] ∧ n ≤ 4096 ∧ t ≤ n ∧
  (n = 0 ∨ ∃ gc off, a = some ⟨gc, off, none⟩ ∧ gc < B ∧ ∀ i, i < n → w.cell? ⟨gc, off + i, none⟩ = some (.int .u8 ((b i).toNat : Int)))
theorem Src.at_ {w : World} {B g : Nat} (h : Src w B g) : ∃ n t x, SrcAt w B g n t x := by
  obtain ⟨hB, a, n, cap, b, t, x, hk, h1, h2, h3⟩ := h
  exact ⟨n, t, x, hB, a, cap, b, hk, h1, h2, h3⟩
theorem SrcAt.src {w : World} {B g n t : Nat} {h : Int} (hs : SrcAt w B g n t h) : Src w B g := by
  obtain ⟨hB, a, cap, b, hk, h1, h2, h3⟩ := hs
  exact ⟨hB, a, n, cap, b, t, h, hk, h1, h2, h3⟩
theorem SrcAt.le {w : World} {B g n t : Nat} {h : Int} (hs : SrcAt w B g n t h) : t ≤ n ∧ n ≤ 4096 := by
  obtain ⟨hB, a, cap, b, hk, h1, h2, h3⟩ := hs
  exact ⟨h2, h1⟩
theorem SrcAt.keep {w w' : World} {B g n t : Nat} {x : Int} (h : SrcAt w B g n t x) (hb : Below B w w') (hg : w'.heap[g]? = w.heap[g]?) : SrcAt w' B g n t x := by
  obtain ⟨hB, a, cap, b, hk, h1, h2, h3⟩ := h
  exact ⟨hB, a, cap, b, hg.trans hk, h1, h2, h3.imp id fun ⟨gc, off, e, hgc, hc⟩ => ⟨gc, off, e, hgc, fun i hi => (hb.cell (p := ⟨gc, off + i, none⟩) hgc).trans (hc i hi)⟩⟩
theorem SrcAt.below {w w' : World} {B g n t : Nat} {x : Int} (h : SrcAt w B g n t x) (hb : Below w.heap.size w w') : SrcAt w' B g n t x :=
  h.keep (hb.mono (Nat.le_of_lt (Nat.lt_of_le_of_lt h.src.1 h.src.lt))) (hb.block g h.src.lt)
/-- The state as a number below 2 ^ 64. -/
def st (h : Int) : Nat := (h % 18446744073709551616).toNat
theorem st_lt (h : Int) : st h < 2 ^ 64 := by unfold st; omega
theorem st_nat (x : Nat) (hx : x < 2 ^ 64) : st (x : Int) = x := by unfold st; omega
theorem lcg_wrap (h : Int) : IntKind.u64.wrap (IntKind.u64.wrap (h * 6364136223846793005) + 1442695040888963407) = ((Lcg.f (st h) : Nat) : Int) := by
  rw [IntKind.wrap_u64, IntKind.wrap_u64]
  unfold Lcg.f st
  omega
theorem and_mask (y : Nat) (hy : y < 2 ^ 64) : bits .and .u64 (y : Int) 16777215 = ((y % 16777216 : Nat) : Int) := by
  show IntKind.u64.wrap ((BitVec.ofInt 64 (y : Int) &&& BitVec.ofInt 64 16777215).toNat : Int) = _
  rw [BitVec.toNat_and, BitVec.toNat_ofInt, BitVec.toNat_ofInt]
  rw [show (((y : Nat) : Int) % ((2 ^ 64 : Nat) : Int)).toNat = y by omega, show ((16777215 : Int) % ((2 ^ 64 : Nat) : Int)).toNat = 2 ^ 24 - 1 by decide, Nat.and_two_pow_sub_one_eq_mod, IntKind.wrap_u64]
  omega
theorem win_bits (x : Nat) (hx : x < 2 ^ 64) : bits .and .u64 ((x : Int) / 8589934592) 16777215 = ((Lcg.win x : Nat) : Int) := by
  rw [show (x : Int) / 8589934592 = ((x / 8589934592 : Nat) : Int) by omega]
  exact and_mask _ (by omega)
theorem win_lt (x : Nat) : Lcg.win x < 16777216 := Nat.mod_lt _ (by decide)
set_option maxRecDepth 100000 in
set_option maxHeartbeats 400000 in
theorem l01NextX {w : World} {B g m t : Nat} {h : Int} (hS : SrcAt w B g m t h) (n : Nat) (hn : 0 < n) (hn2 : n ≤ 9000000000) :
    Calls Try.prog 51 #[.pointer (some ⟨g, 0, none⟩), .int .i64 (n : Int)] w fun e w' => ∃ x : Nat, x < n ∧ e = .returned (.int .i64 (x : Int)) ∧ (∃ t', SrcAt w' B g m t' ((Lcg.f (st h) : Nat) : Int) ∧ (t' = t + 1 ∨ (t = m ∧ t' = t ∧ x = Lcg.win (Lcg.f (st h)) % n))) ∧ w.grownBy w' (some g) := by
  obtain ⟨hB, a, cap, b, hk, hm, ht, hsrc⟩ := hS
  have hni : ¬ (n : Int) < 1 := by omega
  have c2 : w.cell? ⟨g, 2, none⟩ = some (.int .u64 h) := hk.cell 2
  have f2 := hk.frozen 2
  have HK := Lib.hid hk
  clear hk
  have HS := Lib.hid hsrc
  clear hsrc
  go_enter Try.func51, Try.ntmps51
  go_upto_region 5 with fail
  obtain ⟨X, hX⟩ : ∃ X : Nat, Lcg.f (st h) = X := ⟨_, rfl⟩
  have hX64 : X < 2 ^ 64 := by rw [← hX]; exact Lcg.f_lt _
  have hH := lcg_wrap h
  rw [hX] at hH
  have hand := win_bits X hX64
  obtain ⟨q, hqe⟩ : ∃ q, Lcg.win X = q := ⟨_, rfl⟩
  have hq : q < 16777216 := by rw [← hqe]; exact win_lt X
  rw [hqe] at hand
  have hw64 : wrap64 (q : Int) = (q : Int) := by unfold wrap64; omega
  rw [hH, hand, hw64]
  obtain ⟨H, hHX⟩ : ∃ H : Int, ((X : Nat) : Int) = H := ⟨_, rfl⟩
  rw [hHX]
  obtain ⟨w1, hw1⟩ : ∃ w1, w.setCell ⟨g, 2, none⟩ (.int .u64 H) = w1 := ⟨_, rfl⟩
  rw [hw1]
  have G1 := Lib.hid (grown_set (i := 2) HK.out (.int .u64 H))
  have K1 := Lib.hid (HK.out.set_ 2 (.int .u64 H))
  rw [hw1] at G1 K1
  have c0 : w1.cell? ⟨g, 0, none⟩ = some (.slice a m cap) := K1.out.cell 0
  have c1 : w1.cell? ⟨g, 1, none⟩ = some (.int .i64 (t : Int)) := K1.out.cell 1
  have f1 := K1.out.frozen 1
  have bel := below_grown (Below.refl B w) G1.out (Nat.le_of_lt (Nat.lt_of_le_of_lt hB HK.out.lt)) (fun k hk => by injection hk with hk; omega)
  have HS1 : m = 0 ∨ ∃ gc off, a = some ⟨gc, off, none⟩ ∧ gc < B ∧ ∀ i, i < m → w1.cell? ⟨gc, off + i, none⟩ = some (.int .u8 ((b i).toNat : Int)) :=
    HS.out.imp id fun ⟨gc, off, e, hgc, hc⟩ => ⟨gc, off, e, hgc, fun i hi => (bel.cell (p := ⟨gc, off + i, none⟩) hgc).trans (hc i hi)⟩
  have HX := Lib.hid hX
  have HQ := Lib.hid hqe
  have HH := Lib.hid hHX
  clear hH hw1 hw64 hand HK HS c2 f2 bel hX hX64 hqe hHX
  by_cases hlt : t < m
  · have hti : (t : Int) < (m : Int) := by omega
    have H1 := Lib.hid HS1
    obtain ⟨gc, off, rfl, hgc, hcell⟩ := HS1.resolve_left (by omega)
    have c3 : w1.cell? ⟨gc, off + t, none⟩ = some (.int .u8 ((b t).toNat : Int)) := hcell t hlt
    have hb256 := (b t).toNat_lt
    have e9 : ((q : Int) + ((b t).toNat : Int)).tmod (n : Int) = (((q + (b t).toNat) % n : Nat) : Int) := by
      rw [show (q : Int) + ((b t).toNat : Int) = ((q + (b t).toNat : Nat) : Int) by omega]
      rfl
    have hxl := Nat.mod_lt (q + (b t).toNat) hn
    clear hcell
    go_quiet (fail)
    obtain ⟨n1, rfl⟩ : ∃ n1 : Nat, n1 = nq := ⟨_, rfl⟩
    go_wp2
    go_quiet (fail)
    go_wp2
    go_ret
    have K2 := K1.out.drewN (n1 + nq)
    have G2 := grown_set (i := 1) K2 (.int .i64 ((t : Int) + 1))
    have G3 := grown_trans (grown_drewN G1.out (n1 + nq)) G2
    rw [HX.out, HH.out]
    exact ⟨_, hxl, rfl, ⟨t + 1, ⟨hB, _, cap, b, K2.set_ 1 _, hm, by omega, H1.out.imp id fun ⟨gc, off, e, hgc, hc⟩ => ⟨gc, off, e, hgc, fun i hi => ((below_grown (Below.refl B _) G2 (Nat.le_of_lt (Nat.lt_of_le_of_lt hB K2.lt)) (fun k hk => by injection hk with hk; omega)).cell (p := ⟨gc, off + i, none⟩) hgc).trans (hc i hi)⟩⟩, .inl rfl⟩, G3⟩
  · have hti : ¬ (t : Int) < (m : Int) := by omega
    have e9 : (q : Int).tmod (n : Int) = ((q % n : Nat) : Int) := rfl
    have hxl := Nat.mod_lt q hn
    go_quiet (fail)
    go_wp2
    go_ret
    rw [HX.out, HQ.out, HH.out]
    exact ⟨_, hxl, rfl, ⟨t, ⟨hB, a, cap, b, K1.out.drewN _, hm, ht, HS1⟩, .inr ⟨by omega, rfl, rfl⟩⟩, grown_drewN G1.out _⟩
end Go.Proofs.Ytphfiekhpicpgaa
