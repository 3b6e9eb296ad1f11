/- Contracts: the value of a polynomial, by the program (a range over slices.Backward) and by the reference. No condition. -/
import Derived.RangeFuncNested
import Derived.RangeFuncBound
import Derived.RangeFuncCalls
import Derived.RangeFuncLeaves
import Derived.RangeFuncBox
import Derived.Shelf.Abstract
import Derived.Shelf.RegionOpen
import Derived.WalkKit
import Derived.OwnWalkIn
import Derived.TacticsInMore
import Derived.LoopNIn
import Derived.LoopIn
import Derived.Test.YtnkfghoajpghkaaRows
import Derived.Test.YtnkfghoajpghkaaLaws
import Derived.Test.YtnkfghoajpghkaaSliIn
import Derived.Test.YtnkfghoajpghkaaTimes
import Derived.Test.YtnkfghoajpghkaaField
set_option linter.unusedVariables false
namespace Go.Proofs.Ytnkfghoajpghkaa
open Go.RowKit Go.Shelf Plain
attribute [local go_sem] Oper.semAt_some
/-- What has come when k rounds are over. -/
def upto {α : Type} (f : Nat → α) (k : Nat) : List α := (List.range k).map f
theorem upto_succ {α : Type} (f : Nat → α) (k : Nat) : upto f (k + 1) = upto f k ++ [f k] := by simp [upto, List.range_succ]
theorem upto_length {α : Type} (f : Nat → α) (k : Nat) : (upto f k).length = k := by simp [upto]
/-- The pair that comes in the round j of n: the index and the value, from behind. -/
def bk (b : Nat → UInt8) (n : Nat) : Nat → Nat × UInt8 := fun j => (n - 1 - j, b (n - 1 - j))
/-- What a round keeps: what lay below n₀, and the block Bs. -/
def KpB (n₀ Bs : Nat) (W W' : World) : Prop := Below n₀ W W' ∧ W'.heap[Bs]? = W.heap[Bs]?
theorem KpB.refl (n₀ Bs : Nat) (W : World) : KpB n₀ Bs W W := ⟨Below.refl _ _, rfl⟩
theorem kpB_t {n₀ Bs : Nat} {A B C : World} (h : KpB n₀ Bs A B) (k : KpB n₀ Bs B C) : KpB n₀ Bs A C := ⟨h.1.trans k.1, k.2.trans h.2⟩
theorem kpB_b {n₀ Bs : Nat} {w : World} (hn : n₀ ≤ w.heap.size) (hB : Bs < w.heap.size) (W : World) (l : Nat) (o o' : Obj) (hl : w.heap.size ≤ l) (h : W.heap[l]? = some o) (h1 : o.isCells = false) (h2 : o.isWalk = false) : KpB n₀ Bs W (W.putObj l o') :=
  ⟨belowK_b hn W l o o' hl h h1 h2, (grownBy_putObj' W l o').block Bs (by have := (Array.getElem?_eq_some_iff.1 h).1; omega) (fun e => by cases e; omega)⟩
theorem KpB.cellB {n₀ Bs : Nat} {W W' : World} (h : KpB n₀ Bs W W') {i : Nat} {v : Value} (hc : W.cell? ⟨Bs, i, none⟩ = some v) : W'.cell? ⟨Bs, i, none⟩ = some v := (World.cell?_of_block (a := ⟨Bs, i, none⟩) h.2).trans hc
set_option maxRecDepth 100000 in
set_option maxHeartbeats 2000000 in
theorem back1_in (F : Fence) (n : Nat) (h8 : F.fn 92) (hro : F.round = none) (hn : 1 ≤ n) (l Bs n₀ len cap : Nat) (a : Option Addr) (b : Nat → UInt8) (hlen : len ≤ 1048576)
    (J Jx : List (Nat × UInt8) → World → Prop)
    (hY : ∀ pre x W, J pre W → pre.length < len → YieldAt F (n - 1) Try.prog l #[.int .i64 (x.1 : Int), .int .u8 (x.2.toNat : Int)] W fun e W' =>
      (e = .returned (.bool true) ∧ J (pre ++ [x]) W' ∧ KpB n₀ Bs W W') ∨ (e = .returned (.bool false) ∧ Jx (pre ++ [x]) W'))
    (W : World) (hBs : W.cell? ⟨Bs, 0, none⟩ = some (.slice a len cap)) (hc : len = 0 ∨ ∃ g off, a = some ⟨g, off, none⟩ ∧ g < n₀ ∧ ∀ j, j < len → W.cell? ⟨g, off + j, none⟩ = some (.int .u8 ((b j).toNat : Int))) (h0 : J [] W) :
    CallsIn F n Try.prog 92 #[.func (.yield l) #[] #[], .pointer (some ⟨Bs, 0, none⟩)] W fun e W' => (∃ v, e = .returned v) ∧
      ((∃ ys, ys = upto (bk b len) len ∧ J ys W') ∨ (∃ pre, (∃ k, k ≤ len ∧ pre = upto (bk b len) k) ∧ Jx pre W')) := by
  refine callsIn_of_wp Try.func92 rfl h8 ?_ hro
  simp only [Try.ntmps92, List.size_toArray, List.length_cons, List.length_nil, Nat.reduceAdd, Nat.reduceSub, Array.replicate_succ, Array.replicate_zero, List.push_toArray, List.append_toArray, List.nil_append, List.cons_append]
  gi_wp2
  gi_loopw [3] (fun i wr => ∃ (r : Nat) (z : Int), r ≤ len ∧ z = (r : Int) - 1 ∧ i = .int .i64 z ∧ J (upto (bk b len) (len - r)) wr ∧ KpB n₀ Bs W wr)
    (fun i _ => (intOf i + 1).toNat)
  case atStart => exact ⟨len, _, Nat.le_refl _, rfl, rfl, by rw [Nat.sub_self]; exact h0, KpB.refl _ _ _⟩
  case round =>
    obtain ⟨r, z, hr, hz, rfl, hJs, hnx⟩ := hrel
    have hbx : wr.cell? ⟨Bs, 0, none⟩ = some (.slice a len cap) := hnx.cellB hBs
    cases r with
    | succ q =>
      obtain rfl : z = (q : Int) := by omega
      have hql : q < len := by omega
      obtain ⟨g, off, rfl, hg, hcs⟩ := hc.resolve_left (by omega)
      have hcx' : wr.cell? ⟨g, off + q, none⟩ = some (.int .u8 ((b q).toNat : Int)) := (hnx.1.cell (p := ⟨g, off + q, none⟩) hg).trans (hcs q hql)
      obtain ⟨fn, tmps, assign, body, hy, hR⟩ := hY _ (q, b q) wr hJs (by rw [upto_length]; omega)
      dsimp only at hy
      have hk : bk b len (len - (q + 1)) = (q, b q) := by unfold bk; rw [show len - 1 - (len - (q + 1)) = q by omega]
      have hs : upto (bk b len) (len - q) = upto (bk b len) (len - (q + 1)) ++ [(q, b q)] := by rw [show len - q = len - (q + 1) + 1 by omega, upto_succ, hk]
      have hs := Lib.hid hs
      clear hk hz hcs hc hY h0 hBs
      have hqi : (0 : Int) ≤ (q : Int) := by omega
      have hqi2 : (q : Int) < (len : Int) := by omega
      gi_wp2
      refine hR.mono ?_
      rintro e W3 (⟨rfl, hJ3, hk3⟩ | ⟨rfl, hJx3⟩)
      · gi_wp2
        go_roundw
        case rel => exact ⟨q, _, by omega, rfl, rfl, by rw [hs.out]; exact hJ3, kpB_t hnx hk3⟩
        case measure => simp [intOf]
      · gi_wp2
        refine bodyPost_ret (results_none rfl _ _ _) rfl ?_
        exact ⟨⟨_, rfl⟩, .inr ⟨_, ⟨len - q, by omega, hs.out.symm⟩, hJx3⟩⟩
    | zero =>
      obtain rfl : z = -1 := by omega
      clear hz hY h0 hBs hc
      gi_wp2
      go_end0
      exact ⟨⟨_, rfl⟩, .inl ⟨_, rfl, hJs⟩⟩
theorem back_in (F : Fence) (n : Nat) (h6 : F.fn 82) (hro : F.round = none) (a : Option Addr) (len cap : Nat) (w : World) :
    CallsIn F n Try.prog 82 #[.slice a len cap] w fun e w' => e = .returned (.func (.func 92) #[] #[.pointer (some ⟨w.heap.size, 0, none⟩)]) ∧ w' = w.alloc (.cells #[.slice a len cap] 22) := by
  refine callsIn_of_wp Try.func82 rfl h6 ?_ hro
  simp only [Try.ntmps82, List.size_toArray, List.length_cons, List.length_nil, Nat.reduceAdd, Nat.reduceSub, Array.replicate_succ, Array.replicate_zero, List.push_toArray, List.append_toArray, List.nil_append, List.cons_append]
  gi_wp2
  go_ret
  exact ⟨rfl, rfl⟩
theorem back_stops (F : Fence) (n : Nat) (h8 : F.fn 92) (hro : F.round = none) (hn : 1 ≤ n) (Bs n₀ len cap : Nat) (a : Option Addr) (b : Nat → UInt8) (hlen : len ≤ 1048576) (w : World) (hBs : Bs < w.heap.size) (hn₀ : n₀ ≤ w.heap.size)
    (hc : w.cell? ⟨Bs, 0, none⟩ = some (.slice a len cap)) (hI : len = 0 ∨ ∃ g off, a = some ⟨g, off, none⟩ ∧ g < n₀ ∧ ∀ j, j < len → w.cell? ⟨g, off + j, none⟩ = some (.int .u8 ((b j).toNat : Int))) :
    SeqStopsK F n Try.prog 92 #[.pointer (some ⟨Bs, 0, none⟩)] (fun x : Nat × UInt8 => #[Value.int .i64 (x.1 : Int), Value.int .u8 (x.2.toNat : Int)]) (KpB n₀ Bs) (fun ys => ys = upto (bk b len) len)
      (fun pre => ∃ k, k ≤ len ∧ pre = upto (bk b len) k) len w := fun l J Jx W hW _ _ hY h0 =>
  back1_in F n h8 hro hn l Bs n₀ len cap a b hlen J Jx hY W ((hW.cell (p := ⟨Bs, 0, none⟩) hBs).trans hc)
    (hI.imp id fun ⟨g, off, e, hg, h⟩ => ⟨g, off, e, hg, fun j hj => (hW.cell (p := ⟨g, off + j, none⟩) (Nat.lt_of_lt_of_le hg hn₀)).trans (h j hj)⟩) h0
/-- The value, one pair after the other. -/
def valF (m x : Nat) : List (Nat × UInt8) → Nat := List.foldl (fun s p => timesI m s x ^^^ p.2.toNat) 0
theorem valF_snoc (m x : Nat) (pre : List (Nat × UInt8)) (p : Nat × UInt8) : valF m x (pre ++ [p]) = timesI m (valF m x pre) x ^^^ p.2.toNat := by simp [valF]
theorem fold_lt {m x : Nat} (h1 : 256 ≤ m) (h2 : m < 512) : ∀ (l : List (Nat × UInt8)) (s : Nat), s < 256 → List.foldl (fun s p => timesI m s x ^^^ p.2.toNat) s l < 256
  | [], s, hs => hs
  | p :: l, s, hs => fold_lt h1 h2 l _ (Nat.xor_lt_two_pow (n := 8) (timesI_lt h1 h2 hs) p.2.toNat_lt)
theorem valF_lt {m x : Nat} (h1 : 256 ≤ m) (h2 : m < 512) (l : List (Nat × UInt8)) : valF m x l < 256 := fold_lt h1 h2 l 0 (by decide)
def valN (m x : Nat) (b : Nat → UInt8) (n : Nat) : Nat := valF m x (upto (bk b n) n)
theorem byteXor (a : Nat) (c : UInt8) (ha : a < 256) : bits .xor .u8 (a : Int) (c.toNat : Int) = ((a ^^^ c.toNat : Nat) : Int) := by
  have h := b_xor (UInt8.ofNat a) c
  rw [toNat_ofNat_lt ha] at h
  rw [h, UInt8.toNat_xor, toNat_ofNat_lt ha]
set_option maxRecDepth 100000 in
set_option maxHeartbeats 2000000 in
theorem fValue (m x n cap : Nat) (a : Option Addr) (b : Nat → UInt8) (h1 : 256 ≤ m) (h2 : m < 512) (hx : x < 256) (hlen : n ≤ 1048576) (w : World)
    (hI : n = 0 ∨ ∃ g off, a = some ⟨g, off, none⟩ ∧ g < w.heap.size ∧ ∀ j, j < n → w.cell? ⟨g, off + j, none⟩ = some (.int .u8 ((b j).toNat : Int))) :
    Calls Try.prog 52 #[.int .i64 (m : Int), .slice a n cap, .int .u8 (x : Int)] w fun e w' => e = .returned (.int .u8 (valN m x b n : Int)) ∧ Below w.heap.size w w' := by
  refine (callsIn_wide (n := 3)).1 ?_
  refine callsIn_of_wp_marks Try.func52 rfl trivial ?_ rfl
  simp only [Try.ntmps52, List.size_toArray, List.length_cons, List.length_nil, Nat.reduceAdd, Nat.reduceSub, Array.replicate_succ, Array.replicate_zero, List.push_toArray, List.append_toArray, List.nil_append, List.cons_append]
  gi_wp2_with (refine ⟨trivial, ?_⟩; gi_at_call 82; refine (back_in Fence.wide _ trivial rfl _ _ _ _).mono ?_; rintro e w' ⟨rfl, rfl⟩)
  have b0 := (Blk.new w 74 #[.int .i64 (m : Int)])
  obtain ⟨w1, hw1⟩ : ∃ w1, w1 = w.alloc (.cells #[.int .i64 (m : Int)] 74) := ⟨_, rfl⟩
  rw [← hw1] at b0 ⊢
  have s1 : w1.heap.size = w.heap.size + 1 := by rw [hw1]; simp
  have b1 := Blk.newAt (t := 5) (cs := #[.int .u8 (x : Int)]) s1
  have b0 := b0.alloc (.cells #[.int .u8 (x : Int)] 5)
  obtain ⟨w2, hw2⟩ : ∃ w2, w2 = w1.alloc (.cells #[.int .u8 (x : Int)] 5) := ⟨_, rfl⟩
  rw [← hw2] at b0 b1 ⊢
  have s2 : w2.heap.size = w.heap.size + 1 + 1 := by rw [hw2]; simp [s1]
  have b2 := Blk.newAt (t := 5) (cs := #[.int .u8 0]) s2
  have b0 := b0.alloc (.cells #[.int .u8 0] 5)
  have b1 := b1.alloc (.cells #[.int .u8 0] 5)
  obtain ⟨w3, hw3⟩ : ∃ w3, w3 = w2.alloc (.cells #[.int .u8 0] 5) := ⟨_, rfl⟩
  rw [← hw3] at b0 b1 b2 ⊢
  have s3 : w3.heap.size = w.heap.size + 1 + 1 + 1 := by rw [hw3]; simp [s2]
  have b3 := Blk.newAt (t := 22) (cs := #[.slice a n cap]) s3
  have b0 := b0.alloc (.cells #[.slice a n cap] 22)
  have b1 := b1.alloc (.cells #[.slice a n cap] 22)
  have b2 := b2.alloc (.cells #[.slice a n cap] 22)
  obtain ⟨w4, hw4⟩ : ∃ w4, w4 = w3.alloc (.cells #[.slice a n cap] 22) := ⟨_, rfl⟩
  rw [← hw4] at b0 b1 b2 b3 ⊢
  have s4 : w4.heap.size = w.heap.size + 1 + 1 + 1 + 1 := by rw [hw4]; simp [s3]
  have hB : Below w.heap.size w w4 := by
    rw [hw4, hw3, hw2, hw1]
    exact ((((Below.refl _ w).alloc (Nat.le_refl _) _).alloc (by simp) _).alloc (by simp; omega) _).alloc (by simp; omega) _
  clear hw1 hw2 hw3 hw4 s1 s2 s3
  refine wpIn_rangeFunc_ownG rfl (by omega) (gf := 92) (lb := #[.pointer (some ⟨w.heap.size + 1 + 1 + 1, 0, none⟩)]) rfl trivial (enters_of Try.func92 (by kernel_rfl) rfl)
    (back_stops Fence.wide _ trivial rfl (by omega) (w.heap.size + 1 + 1 + 1) w.heap.size n cap a b hlen w4 (by omega) (by omega) (b3.cell 0) (hI.imp id fun ⟨g, off, e, hg, h⟩ => ⟨g, off, e, hg, fun j hj => (hB.cell (p := ⟨g, off + j, none⟩) hg).trans (h j hj)⟩)) kpB_t (kpB_b (by omega) (by omega)) (Below.refl _ _) (fun _ => rfl)
    (fun pre W => (W.cell? ⟨w.heap.size, 0, none⟩ = some (.int .i64 (m : Int)) ∧ W.cell? ⟨w.heap.size + 1, 0, none⟩ = some (.int .u8 (x : Int)) ∧ W.cell? ⟨w.heap.size + 1 + 1, 0, none⟩ = some (.int .u8 (valF m x pre : Int)) ∧ W.frozen? ⟨w.heap.size + 1 + 1, 0, none⟩ = false) ∧ Below w.heap.size w W)
    (fun _ _ _ => False)
    (OwnFrom.and (Own.from (fun s A B row hs hg hr => ⟨cell_kept hs.1 hg hr, cell_kept hs.2.1 hg hr, cell_kept hs.2.2.1 hg hr, (frozen_kept hs.2.2.1 hg hr).trans hs.2.2.2⟩) _) (ownFrom_below (Nat.le_refl _) (by omega)))
    (fun _ _ _ _ _ hs _ _ => hs)
    ⟨⟨b0.cell 0, b1.cell 0, b2.cell 0, b2.frozen 0⟩, hB⟩
    (fun p => { tmps := #[.int .i64 (m : Int), .slice a n cap, .int .u8 (x : Int), .pointer (some ⟨w.heap.size, 0, none⟩), undef, .pointer (some ⟨w.heap.size + 1, 0, none⟩), .int .u8 0, .pointer (some ⟨w.heap.size + 1 + 1, 0, none⟩), undef, .int .u8 (p.2.toNat : Int), .slice a n cap, .func (.func 92) #[] #[.pointer (some ⟨w.heap.size + 1 + 1 + 1, 0, none⟩)], .int .i64 (p.1 : Int), .int .u8 (p.2.toNat : Int), undef, undef, undef, undef, undef, undef, undef], defers := [] }) ?assign ?body ?done ?stop
  case assign =>
    intro l p W K hK
    gi_wp2
    exact hK
  case body =>
    rintro l pre p W ⟨⟨hcm, hcx, hco, hf⟩, hB2⟩ _
    have hv := valF_lt (x := x) h1 h2 pre
    have ht := timesI_lt (b := x) h1 h2 hv
    have hx2 := byteXor (timesI m (valF m x pre) x) p.2 ht
    have hw2 : IntKind.u8.wrap ((timesI m (valF m x pre) x ^^^ p.2.toNat : Nat) : Int) = ((timesI m (valF m x pre) x ^^^ p.2.toNat : Nat) : Int) := by
      rw [IntKind.wrap_u8]
      have := Nat.xor_lt_two_pow (n := 8) ht p.2.toNat_lt
      omega
    gi_wp2_with (refine ⟨trivial, ?_⟩; gi_at_call 58; refine (CallsIn.inRound l (callsIn_wide.2 (fTimes m (valF m x pre) x h1 h2 hv hx _))).mono ?_; rintro e w' ⟨rfl, hww⟩; rw [hww]; clear hww w')
    refine ⟨(KeepsOthers.setCell _ _ _).from _, ⟨(Below.refl w.heap.size W).setCell (p := ⟨w.heap.size + 1 + 1, 0, none⟩) (by show _ ≤ _ + 1 + 1; omega) _, heap_setCell_other _ _ _ _ (by show _ + 1 + 1 + 1 ≠ _ + 1 + 1; omega)⟩, ⟨?_, ?_, ?_, ?_⟩, hB2.setCell (p := ⟨w.heap.size + 1 + 1, 0, none⟩) (by show _ ≤ _ + 1 + 1; omega) _⟩
    · exact (World.cell?_setCell_other _ _ _ _ (by intro h; simp only [Addr.mk.injEq] at h; omega)).trans hcm
    · exact (World.cell?_setCell_other _ _ _ _ (by intro h; simp only [Addr.mk.injEq] at h; omega)).trans hcx
    · rw [valF_snoc]
      exact World.cell?_setCell_same' _ _ _ (by rw [hco]; rfl)
    · rw [World.frozen?_setCell]; exact hf
  case done =>
    rintro D ys W hD rfl ⟨⟨_, _, hc, _⟩, hB2⟩ hK
    gi_wp2
    refine ⟨by simp, .inl ⟨_, _, rfl, run_takeDeferred hK, ?_⟩⟩
    exact ⟨_, results_tmp rfl _ _ _, rfl, hB2.trans (belowK_b (w := w) (Nat.le_refl _) W D _ _ (by omega) hK rfl rfl)⟩
  case stop =>
    rintro D c pre W _ _ h _
    exact h.elim
end Go.Proofs.Ytnkfghoajpghkaa
