/- Contracts: hex texts of bytes, by the program and by the reference. No condition. -/
import Derived.Test.YtnkfghoajpghkaaRows
import Derived.Test.YtnkfghoajpghkaaBytes
import Derived.Test.YtnkfghoajpghkaaSlices
import Derived.Test.YtnkfghoajpghkaaPlain
set_option linter.unusedVariables false
namespace Go.Proofs.Ytnkfghoajpghkaa
open Go.RowKit Plain
theorem RowF.byteS {w : World} {B n cap : Nat} {a : Option Addr} {b : Nat → UInt8} (h : RowF w B 5 (.slice a n cap) n (byt b)) : ByteS w a n cap b := by
  obtain ⟨a', cap', e, h1, h2, h3⟩ := h.form
  injection e with e1 e2 e3
  subst e1 e3
  refine ⟨h1, h2, h3.imp id ?_⟩
  rintro ⟨g, rfl, hB, hg⟩
  exact ⟨g, 0, rfl, hg, fun i hi => by rw [Nat.zero_add]; exact h.at_ hi⟩
theorem Blk.byteS {w : World} {g t n : Nat} {b : Nat → UInt8} (h : Blk w g t (byteRow n b)) (hn : n ≤ 4294967296) : ByteS w (some ⟨g, 0, none⟩) n n b :=
  ⟨Nat.le_refl _, by unfold maxLen; omega, .inr ⟨g, 0, rfl, h.lt, fun i hi => by rw [Nat.zero_add]; exact h.byteAt hi⟩⟩
theorem digs : ∀ (q : Nat) (hq : q < ByteArray.size { data := #[48, 49, 50, 51, 52, 53, 54, 55, 56, 57, 97, 98, 99, 100, 101, 102] }), (({ data := #[48, 49, 50, 51, 52, 53, 54, 55, 56, 57, 97, 98, 99, 100, 101, 102] } : ByteArray)[q]'hq) = hexC q := by
  intro q hq
  match q, hq with
  | 0, _ | 1, _ | 2, _ | 3, _ | 4, _ | 5, _ | 6, _ | 7, _ | 8, _ | 9, _ | 10, _ | 11, _ | 12, _ | 13, _ | 14, _ | 15, _ => rfl
  | q + 16, h => exact absurd (show q + 16 < 16 from h) (by omega)
theorem wrap_smallH {q : Nat} (h : q < 256) : IntKind.u8.wrap (q : Int) = q := by
  rw [IntKind.wrap_u8]
  omega
theorem two_cells {w : World} {n : Nat} {e : TypeId} {x y : UInt8} (h : w.heap.size = n) : ∀ (j : Nat) (z : UInt8), [x, y][j]? = some z → (w.alloc (.cells #[.int .u8 (x.toNat : Int), .int .u8 (y.toNat : Int)] e)).cell? ⟨n, 0 + j, none⟩ = some (.int .u8 (z.toNat : Int)) := by
  intro j z hz
  rw [Nat.zero_add, (Blk.newAt h).cell j]
  match j, hz with
  | 0, hz => obtain rfl : x = z := by simpa using hz
             rfl
  | 1, hz => obtain rfl : y = z := by simpa using hz
             rfl
  | j + 2, hz => simp at hz
set_option maxRecDepth 100000 in
set_option maxHeartbeats 800000 in
theorem l01Hex {a : Option Addr} {n cap : Nat} {b : Nat → UInt8} (w : World) (hs : ByteS w a n cap b) (hn : n ≤ 1048576) :
    Calls Try.prog 86 #[.slice a n cap] w fun e w' => e = .returned (.string (hexS b n)) ∧ Below w.heap.size w w' := by
  obtain ⟨i0, hi, hz, hsz, hby⟩ := info_parts info_byte
  have hm := hs.1
  have hsrc := hs.2.2
  clear hs
  go_enter Try.func86, Try.ntmps86
  go_wp2_with fail
  go_loopw [5, 4] (fun i v wr => ∃ k : Nat, k ≤ n ∧ i = .int .i64 k ∧ LB wr w.heap.size 5 v (hexL b k) ∧ Below w.heap.size w wr)
    (fun i _ _ => n - (intOf i).toNat)
  case atStart => exact ⟨0, by omega, rfl, LB.new (by simp) (by simp), (Below.refl _ _).alloc (by omega) _⟩
  case round =>
    obtain ⟨k, hk, rfl, hl, hb⟩ := hrel
    by_cases hlt : k < n
    · have hki : (k : Int) < n := by omega
      obtain ⟨g, off, rfl, hg, hcell⟩ := hsrc.resolve_left (by omega)
      have c0 : wr.cell? ⟨g, off + k, none⟩ = some (.int .u8 ((b k).toNat : Int)) := (hb.cell (p := ⟨g, off + k, none⟩) hg).trans (hcell k hlt)
      obtain ⟨q1, hq1⟩ : ∃ q, (b k).toNat / 16 = q := ⟨_, rfl⟩
      obtain ⟨q2, hq2⟩ : ∃ q, (b k).toNat % 16 = q := ⟨_, rfl⟩
      have hb256 := (b k).toNat_lt
      have hq1' : q1 < 16 := by omega
      have hq2' : q2 < 16 := by omega
      have e1 : ((b k).toNat : Int) / 16 = (q1 : Int) := by omega
      have e2 : ((b k).toNat : Int).tmod 16 = (q2 : Int) := by rw [Int.tmod_eq_emod_of_nonneg (by omega)]; omega
      have dg := digs
      have w1 := wrap_smallH (q := q1) (by omega)
      have w2 := wrap_smallH (q := q2) (by omega)
      have hq1i : (q1 : Int) < 16 := by omega
      have hq2i : (q2 : Int) < 16 := by omega
      have hst : hexL b (k + 1) = hexL b k ++ [hexC q1, hexC q2] := by rw [← hq1, ← hq2]; rfl
      have hlen := hexL_length b k
      have hsize := hb.size
      clear hq1 hq2 hcell hsrc
      have Hl := Lib.hid hl; clear hl; have Hb := Lib.hid hb; clear hb; have Hst := Lib.hid hst; clear hst
      go_upto_region 5 with fail
      go_region_law (refine step_appendB rfl _ _ _ rfl w.heap.size 5 i0 Try.underlying22 hi hz hsz hby _ _ rfl (Hl.out.alloc _).drew _ 2 _ [hexC q1, hexC q2] rfl rfl (two_cells rfl) (by omega) (by omega) (by simp; omega) ?_; intro vy wy hl hg; have BB := Lib.hid (below_grown (Hb.out.alloc (by omega) _).drew hg (by simp; omega) (fun q hq => by have := (Hl.out.lt q hq).1; omega)); have LY := Lib.hid hl; clear hl hg)
      all_goals go_wp2
      all_goals exact ⟨⟨k + 1, by omega, by go_num, by rw [Hst.out]; exact LY.out, BB.out⟩, by simp [intOf]; omega⟩
    · obtain rfl : k = n := by omega
      have Hl := Lib.hid hl; clear hl; have Hb := Lib.hid hb; clear hb
      go_wp2_with (refine wpList_strB rfl _ _ _ _ rfl Try.underlying22 Try.underlying5 Try.underlying9 rfl Hl.out ?_)
      go_ret
      exact ⟨rfl, Hb.out⟩
set_option maxRecDepth 100000 in
set_option maxHeartbeats 800000 in
theorem hexOf {a : Option Addr} {n cap : Nat} {b : Nat → UInt8} (w : World) (hs : ByteS w a n cap b) (hn : n ≤ 1048576) :
    Calls Try.prog 75 #[.slice a n cap] w fun e w' => e = .returned (.string (hexS b n)) ∧ Below w.heap.size w w' := by
  obtain ⟨i0, hi, hz, hsz, hby⟩ := info_parts info_byte
  have hm := hs.1
  have hsrc := hs.2.2
  clear hs
  go_enter Try.func75, Try.ntmps75
  go_wp2_with fail
  go_loopw [9, 3] (fun i v wr => ∃ k : Nat, k ≤ n ∧ i = .int .i64 k ∧ LB wr w.heap.size 5 v (hexL b k) ∧ Below w.heap.size w wr)
    (fun i _ _ => n - (intOf i).toNat)
  case atStart => exact ⟨0, by omega, rfl, LB.new (by simp) (by simp), (Below.refl _ _).alloc (by omega) _⟩
  case round =>
    obtain ⟨k, hk, rfl, hl, hb⟩ := hrel
    by_cases hlt : k < n
    · have hki : (k : Int) < n := by omega
      obtain ⟨g, off, rfl, hg, hcell⟩ := hsrc.resolve_left (by omega)
      have c0 : wr.cell? ⟨g, off + k, none⟩ = some (.int .u8 ((b k).toNat : Int)) := (hb.cell (p := ⟨g, off + k, none⟩) hg).trans (hcell k hlt)
      obtain ⟨q1, hq1⟩ : ∃ q, (b k).toNat / 16 = q := ⟨_, rfl⟩
      obtain ⟨q2, hq2⟩ : ∃ q, (b k).toNat % 16 = q := ⟨_, rfl⟩
      have hb256 := (b k).toNat_lt
      have hq1' : q1 < 16 := by omega
      have hq2' : q2 < 16 := by omega
      have e1 : ((b k).toNat : Int) / 16 = (q1 : Int) := by omega
      have e2 : bits .and .u8 ((b k).toNat : Int) 15 = (q2 : Int) := by
        have := b_and (b k) 15
        rw [show ((15 : UInt8).toNat : Int) = 15 from rfl] at this
        rw [this, UInt8.toNat_and, show (15 : UInt8).toNat = 2 ^ 4 - 1 from rfl, Nat.and_two_pow_sub_one_eq_mod, hq2]
      have dg := digs
      have w1 := wrap_smallH (q := q1) (by omega)
      have w2 := wrap_smallH (q := q2) (by omega)
      have hq1i : (q1 : Int) < 16 := by omega
      have hq2i : (q2 : Int) < 16 := by omega
      have hst : hexL b (k + 1) = hexL b k ++ [hexC q1, hexC q2] := by rw [← hq1, ← hq2]; rfl
      have hlen := hexL_length b k
      have hsize := hb.size
      clear hq1 hq2 hcell hsrc
      have Hl := Lib.hid hl; clear hl; have Hb := Lib.hid hb; clear hb; have Hst := Lib.hid hst; clear hst
      go_upto_region 5 with fail
      go_region_law (refine step_appendB rfl _ _ _ rfl w.heap.size 5 i0 Try.underlying22 hi hz hsz hby _ _ rfl (Hl.out.alloc _).drew _ 2 _ [hexC q1, hexC q2] rfl rfl (two_cells rfl) (by omega) (by omega) (by simp; omega) ?_; intro vy wy hl hg; have BB := Lib.hid (below_grown (Hb.out.alloc (by omega) _).drew hg (by simp; omega) (fun q hq => by have := (Hl.out.lt q hq).1; omega)); have LY := Lib.hid hl; clear hl hg)
      all_goals go_wp2
      all_goals exact ⟨⟨k + 1, by omega, by go_num, by rw [Hst.out]; exact LY.out, BB.out⟩, by simp [intOf]; omega⟩
    · obtain rfl : k = n := by omega
      have Hl := Lib.hid hl; clear hl; have Hb := Lib.hid hb; clear hb
      go_wp2_with (refine wpList_strB rfl _ _ _ _ rfl Try.underlying22 Try.underlying5 Try.underlying9 rfl Hl.out ?_)
      go_ret
      exact ⟨rfl, Hb.out⟩
end Go.Proofs.Ytnkfghoajpghkaa
