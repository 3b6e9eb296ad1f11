/- Contracts: the bits of a matrix over a field, by the reference. No condition. -/
import Derived.Test.YtnkfghoajpghkaaRows
import Derived.Test.YtnkfghoajpghkaaLaws
import Derived.Test.YtnkfghoajpghkaaPerm
import Derived.Test.YtnkfghoajpghkaaMat
import Derived.Test.YtnkfghoajpghkaaSlices
import Derived.Test.YtnkfghoajpghkaaTimes
import Derived.StillTailTactics
import Derived.Deep.DeepCutAuto
set_option linter.unusedVariables false
namespace Go.Proofs.Ytnkfghoajpghkaa
open Go.RowKit Plain
def bitAt (m : Nat) (a : Nat → UInt8) (i bit t : Nat) : Nat := timesI m (a (i * 4 + t / 8)).toNat (2 ^ (t % 8)) / 2 ^ bit % 2
def rowTo (m : Nat) (a : Nat → UInt8) (i bit : Nat) : Nat → Nat
  | 0 => 0
  | t + 1 => rowTo m a i bit t ||| bitAt m a i bit t * 2 ^ t
theorem rowTo_lt (m : Nat) (a : Nat → UInt8) (i bit : Nat) : ∀ t, rowTo m a i bit t < 2 ^ t
  | 0 => by unfold rowTo; omega
  | t + 1 => by
    have h1 := rowTo_lt m a i bit t
    have h2 : bitAt m a i bit t ≤ 1 := by unfold bitAt; omega
    refine Nat.or_lt_two_pow (Nat.lt_trans h1 (Nat.pow_lt_pow_right (by omega) (by omega))) ?_
    rw [Nat.pow_succ]
    have := Nat.mul_le_mul_right (2 ^ t) h2
    have hp : 0 < 2 ^ t := Nat.pow_pos (by omega)
    omega
theorem rowTo_small (m : Nat) (a : Nat → UInt8) (i bit : Nat) {t : Nat} (h : t ≤ 32) : rowTo m a i bit t < 4294967296 :=
  Nat.lt_of_lt_of_le (rowTo_lt m a i bit t) (Nat.pow_le_pow_right (n := 2) (by omega) h)
theorem long_or40 (a b : Nat) (ha : a < 2 ^ 40) (hb : b < 2 ^ 40) : bits .or .i64 (a : Int) (b : Int) = ((a ||| b : Nat) : Int) := by
  have hx : a ||| b < 2 ^ 40 := Nat.or_lt_two_pow ha hb
  show IntKind.i64.wrap ((BitVec.ofInt 64 (a : Int) ||| BitVec.ofInt 64 (b : Int)).toNat : Int) = _
  rw [BitVec.toNat_or, BitVec.ofInt_natCast, BitVec.ofInt_natCast, BitVec.toNat_ofNat, BitVec.toNat_ofNat, Nat.mod_eq_of_lt (by omega), Nat.mod_eq_of_lt (by omega), IntKind.wrap_i64]
  omega
def bitsTo (m : Nat) (a : Nat → UInt8) : Nat → List Int
  | 0 => []
  | p + 1 => bitsTo m a p ++ [(rowTo m a (p / 8) (p % 8) 32 : Int)]
theorem bitsTo_len (m : Nat) (a : Nat → UInt8) : ∀ p, (bitsTo m a p).length = p
  | 0 => rfl
  | p + 1 => by unfold bitsTo; rw [List.length_append, bitsTo_len m a p]; rfl
theorem bit_facts2 {x t : Nat} (hx : x ≤ 1) (ht : t < 32) : x * 2 ^ t < 4294967296 := by
  have hp : 2 ^ t ≤ 2 ^ 31 := Nat.pow_le_pow_right (n := 2) (by omega) (by omega)
  calc x * 2 ^ t ≤ 1 * 2 ^ t := Nat.mul_le_mul_right _ hx
    _ < 4294967296 := by omega
theorem pow_byte {b : Nat} (h : b < 8) : 2 ^ b < 256 := Nat.pow_lt_pow_right (n := 8) (m := b) (by omega) (by omega)
set_option maxRecDepth 100000 in
set_option maxHeartbeats 1600000 in
theorem l03Bits (m : Nat) (a : Nat → UInt8) (h1 : 256 ≤ m) (h2 : m < 512) (w : World) :
    Calls Try.prog 57 #[.int .i64 (m : Int), .agg (byteRow 16 a)] w fun e w' => ∃ v, e = .returned v ∧ LL w' (w.heap.size + 1) 2 v (bitsTo m a 32) ∧ Below w.heap.size w w' := by
  obtain ⟨i0, hi, hz, hsz, hby⟩ := info_parts info_long
  go_enter Try.func57, Try.ntmps57
  go_wp2
  go_loopw [6, 5] (fun x v wr => ∃ i : Nat, i ≤ 4 ∧ x = .int .i64 i ∧ LL wr (w.heap.size + 1) 2 v (bitsTo m a (i * 8)) ∧ Blk wr w.heap.size 30 (byteRow 16 a) ∧ Below w.heap.size w wr)
    (fun x _ _ => 4 - (intOf x).toNat)
  case atStart => exact ⟨0, by omega, rfl, LL.new (by simp) (by simp), (Blk.new w _ _).alloc _, ((Below.refl _ _).alloc (by omega) _).alloc (by simp) _⟩
  case round =>
    obtain ⟨i, hi4, rfl, hl, b0, hb⟩ := hrel
    by_cases hit : i < 4
    · have hii : (i : Int) < 4 := by omega
      have Hl := Lib.hid hl; clear hl; have H0 := Lib.hid b0; clear b0; have Hb := Lib.hid hb; clear hb
      obtain ⟨wo, rfl⟩ : ∃ wo : World, wo = wr := ⟨_, rfl⟩
      go_wp2
      go_loopw [7, 5] (fun x v wr => ∃ bit : Nat, bit ≤ 8 ∧ x = .int .i64 bit ∧ LL wr (w.heap.size + 1) 2 v (bitsTo m a (i * 8 + bit)) ∧ Blk wr w.heap.size 30 (byteRow 16 a) ∧ Below w.heap.size w wr)
        (fun x _ _ => 8 - (intOf x).toNat)
      case atStart => exact ⟨0, by omega, rfl, Hl.out, H0.out, Hb.out⟩
      case round =>
        clear Hl H0 Hb
        obtain ⟨bit, hb8, rfl, hl, b0, hb⟩ := hrel
        by_cases hbt : bit < 8
        · have hbi : (bit : Int) < 8 := by omega
          have hlen := bitsTo_len m a (i * 8 + bit)
          have hsize := hb.size
          have hst : bitsTo m a (i * 8 + (bit + 1)) = bitsTo m a (i * 8 + bit) ++ [(rowTo m a i bit 32 : Int)] := by
            show bitsTo m a (i * 8 + bit) ++ [(rowTo m a ((i * 8 + bit) / 8) ((i * 8 + bit) % 8) 32 : Int)] = _
            rw [show (i * 8 + bit) / 8 = i by omega, show (i * 8 + bit) % 8 = bit by omega]
          have Hl := Lib.hid hl; clear hl; have H0 := Lib.hid b0; clear b0; have Hb := Lib.hid hb; clear hb; have Hst := Lib.hid hst; clear hst
          obtain ⟨wo, rfl⟩ : ∃ wo : World, wo = wr := ⟨_, rfl⟩
          go_wp2
          go_loop [9, 8] (fun x r => ∃ j : Nat, j ≤ 4 ∧ x = .int .i64 j ∧ r = .int .i64 (rowTo m a i bit (j * 8) : Int)) (fun x _ => 4 - (intOf x).toNat)
          case atStart => exact ⟨0, by omega, rfl, rfl⟩
          case round =>
            obtain ⟨j, hj4, rfl, rfl⟩ := hrel
            by_cases hjt : j < 4
            · have hji : (j : Int) < 4 := by omega
              go_wp2
              go_loop [10, 8] (fun x r => ∃ b : Nat, b ≤ 8 ∧ x = .int .i64 b ∧ r = .int .i64 (rowTo m a i bit (j * 8 + b) : Int)) (fun x _ => 8 - (intOf x).toNat)
              case atStart => exact ⟨0, by omega, rfl, rfl⟩
              case round =>
                obtain ⟨b, hb9, rfl, rfl⟩ := hrel
                by_cases hbb : b < 8
                · have hbbi : (b : Int) < 8 := by omega
                  have c0 := H0.out.byteAt (i := i * 4 + j) (by omega)
                  obtain ⟨t, ht⟩ : ∃ t, j * 8 + b = t := ⟨_, rfl⟩
                  have ht32 : t < 32 := by omega
                  have hti : (8 : Int) * (j : Int) + (b : Int) = (t : Int) := by omega
                  have hro : rowTo m a i bit (j * 8 + (b + 1)) = rowTo m a i bit t ||| bitAt m a i bit t * 2 ^ t := by rw [← ht]; rfl
                  have hbe : bitAt m a i bit t = timesI m (a (i * 4 + j)).toNat (2 ^ b) / 2 ^ bit % 2 := by
                    unfold bitAt
                    rw [← ht, show (j * 8 + b) / 8 = j by omega, show (j * 8 + b) % 8 = b by omega]
                  have hrs := rowTo_small m a i bit (t := t) (by omega)
                  rw [ht]
                  have hp := pow_byte hbb
                  have ho := l01Times m (a (i * 4 + j)).toNat (2 ^ b) h1 h2 (a (i * 4 + j)).toNat_lt hp
                  have htl := timesI_lt (b := 2 ^ b) h1 h2 (a (i * 4 + j)).toNat_lt
                  obtain ⟨pb, hpb⟩ : ∃ pb, 2 ^ b = pb := ⟨_, rfl⟩
                  have f0 : (2 : Int) ^ b = (pb : Int) := by rw [← hpb]; push_cast; rfl
                  rw [hpb] at ho htl hbe hp
                  have f1 : (pb : Int) % 256 = pb := by omega
                  obtain ⟨y, hy⟩ : ∃ y, timesI m (a (i * 4 + j)).toNat pb = y := ⟨_, rfl⟩
                  rw [hy] at ho htl hbe
                  have f2 := u8_bit bit htl
                  rw [← hbe] at f2
                  have hx1 : bitAt m a i bit t ≤ 1 := by rw [hbe]; omega
                  obtain ⟨x, hx⟩ : ∃ x, bitAt m a i bit t = x := ⟨_, rfl⟩
                  rw [hx] at f2 hro hx1
                  have hxt := bit_facts2 hx1 ht32
                  obtain ⟨z, hz2⟩ : ∃ z, x * 2 ^ t = z := ⟨_, rfl⟩
                  rw [hz2] at hxt hro
                  have f3 : (x : Int) * 2 ^ t = (z : Int) := by rw [← hz2]; push_cast; rfl
                  obtain ⟨r, hr⟩ : ∃ r, rowTo m a i bit t = r := ⟨_, rfl⟩
                  rw [hr] at hro hrs
                  rw [hr]
                  have f4 := long_or40 r z (by omega) (by omega)
                  rw [← hro] at f4
                  have f5 : wrap64 (z : Int) = z := by unfold wrap64; omega
                  have HO := Lib.hid ho
                  clear ho hpb hy hx hz2 hr ht hbe hro
                  go_wp2_with (go_at_call 80; refine (HO.out _).mono ?_; rintro e wx ⟨rfl, rfl⟩)
                  go_round
                  case rel => exact ⟨b + 1, by omega, by go_num, rfl⟩
                  case measure => simp [intOf]; omega
                · obtain rfl : b = 8 := by omega
                  go_wp2
                  go_round
                  case rel => exact ⟨j + 1, by omega, by go_num, by rw [show (j + 1) * 8 = j * 8 + 8 by omega]⟩
                  case measure => simp [intOf]; omega
            · obtain rfl : j = 4 := by omega
              go_wp2_with (at_builtin; refine wpList_appendL rfl _ _ _ rfl (w.heap.size + 1) 2 i0 Try.underlying36 hi hz hsz hby _ _ rfl (Hl.out.alloc _) _ _ (rowTo m a i bit 32 : Int) rfl (cell_new1 rfl) (by omega) (by have := Hb.out.size; simp; omega) ?_; intro vy wy hl hg; have BB := Lib.hid (below_grown (Hb.out.alloc (by omega) _) hg (by have := Hb.out.size; simp; omega) (fun q hq => by have := (Hl.out.lt q hq).1; omega)); have H0' := Lib.hid ((H0.out.alloc _).grown hg (fun hq => by have := (Hl.out.lt _ hq.symm).1; omega)); have LY := Lib.hid hl; clear hl hg)
              go_roundw
              case rel => exact ⟨bit + 1, by omega, by go_num, by rw [Hst.out]; exact LY.out, H0'.out, BB.out⟩
              case measure => simp [intOf]; omega
        · obtain rfl : bit = 8 := by omega
          have Hl := Lib.hid hl; clear hl; have H0 := Lib.hid b0; clear b0; have Hb := Lib.hid hb; clear hb
          go_wp2
          go_roundw
          case rel => exact ⟨i + 1, by omega, by go_num, by rw [show (i + 1) * 8 = i * 8 + 8 by omega]; exact Hl.out, H0.out, Hb.out⟩
          case measure => simp [intOf]; omega
    · obtain rfl : i = 4 := by omega
      have Hl := Lib.hid hl; clear hl; have H0 := Lib.hid b0; clear b0; have Hb := Lib.hid hb; clear hb
      go_wp2
      go_ret
      exact ⟨_, rfl, Hl.out, Hb.out⟩
end Go.Proofs.Ytnkfghoajpghkaa
