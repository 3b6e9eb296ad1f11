/- Contracts: the text of a matrix, by the reference. No condition. -/
import Derived.Test.YtnkfghoajpghkaaRows
import Derived.Test.YtnkfghoajpghkaaHex
import Derived.Test.YtnkfghoajpghkaaMat
set_option linter.unusedVariables false
namespace Go.Proofs.Ytnkfghoajpghkaa
open Go.RowKit Plain
def rowF4 (a : Nat → UInt8) (i : Nat) : Nat → UInt8 := fun j => a (i * 4 + j)
def txL (a : Nat → UInt8) : Nat → List UInt8
  | 0 => []
  | k + 1 => (if k = 0 then [] else txL a k ++ [47]) ++ hexL (rowF4 a k) 4
theorem four_row (a : Nat → UInt8) (i : Nat) : (#[.int .u8 ((a (i * 4)).toNat : Int), .int .u8 ((a (i * 4 + 1)).toNat : Int), .int .u8 ((a (i * 4 + 2)).toNat : Int), .int .u8 ((a (i * 4 + 3)).toNat : Int)] : Array Value) = byteRow 4 (rowF4 a i) := rfl
theorem txL_len (a : Nat → UInt8) : ∀ k, (txL a k).length ≤ 9 * k
  | 0 => Nat.le_refl _
  | k + 1 => by
    have h := txL_len a k
    unfold txL
    rw [List.length_append, hexL_length]
    split
    · simp; omega
    · rw [List.length_append]; simp; omega
theorem bytes_app (x y : List UInt8) : (⟨x.toArray⟩ ++ ⟨y.toArray⟩ : ByteArray) = ⟨(x ++ y).toArray⟩ := by
  apply ByteArray.ext
  rw [ByteArray.data_append]
  simp
set_option maxRecDepth 100000 in
set_option maxHeartbeats 3200000 in
theorem l03Text (a : Nat → UInt8) (w : World) :
    Calls Try.prog 74 #[.agg (byteRow 16 a)] w fun e w' => e = .returned (.string ⟨(txL a 4).toArray⟩) ∧ Below w.heap.size w w' := by
  go_enter Try.func74, Try.ntmps74
  go_wp2
  go_loopw [4, 3] (fun i s wr => ∃ k : Nat, k ≤ 4 ∧ i = .int .i64 k ∧ s = .string ⟨(txL a k).toArray⟩ ∧ Blk wr w.heap.size 30 (byteRow 16 a) ∧ Below w.heap.size w wr)
    (fun i _ _ => 4 - (intOf i).toNat)
  case atStart => exact ⟨0, by omega, rfl, rfl, Blk.new w _ _, (Below.refl _ _).alloc (by omega) _⟩
  case round =>
    obtain ⟨k, hk, rfl, rfl, b0, hb⟩ := hrel
    by_cases hlt : k < 4
    · have hki : (k : Int) < 4 := by omega
      have c0 := b0.byteAt (i := k * 4) (by omega)
      have c1 := b0.byteAt (i := k * 4 + 1) (by omega)
      have c2 := b0.byteAt (i := k * 4 + 2) (by omega)
      have c3 := b0.byteAt (i := k * 4 + 3) (by omega)
      have hbs : ByteS (wr.alloc (.cells #[.int .u8 ((a (k * 4)).toNat : Int), .int .u8 ((a (k * 4 + 1)).toNat : Int), .int .u8 ((a (k * 4 + 2)).toNat : Int), .int .u8 ((a (k * 4 + 3)).toNat : Int)] 5)).drew (some ⟨wr.heap.size, 0, none⟩) 4 4 (rowF4 a k) := Blk.byteS ((Blk.new wr 5 _).eq_ (four_row a k)) (by omega)
      have C := Lib.hid (l01Hex _ hbs (by omega))
      have hb2 := ((hb.alloc hb.size (.cells #[.int .u8 ((a (k * 4)).toNat : Int), .int .u8 ((a (k * 4 + 1)).toNat : Int), .int .u8 ((a (k * 4 + 2)).toNat : Int), .int .u8 ((a (k * 4 + 3)).toNat : Int)] 5)).drew)
      have b2 := ((b0.alloc (.cells #[.int .u8 ((a (k * 4)).toNat : Int), .int .u8 ((a (k * 4 + 1)).toNat : Int), .int .u8 ((a (k * 4 + 2)).toNat : Int), .int .u8 ((a (k * 4 + 3)).toNat : Int)] 5)).drew)
      clear hbs
      have H0 := Lib.hid b0; clear b0; have Hb := Lib.hid hb; clear hb; have Hb2 := Lib.hid hb2; clear hb2; have H2 := Lib.hid b2; clear b2
      have hst : txL a (k + 1) = (if k = 0 then [] else txL a k ++ [47]) ++ hexL (rowF4 a k) 4 := rfl
      have hsl := txL_len a k
      obtain ⟨s, hs⟩ : ∃ s : ByteArray, ⟨(txL a k).toArray⟩ = s := ⟨_, rfl⟩
      have hss : s.size ≤ 36 := by rw [← hs]; show (txL a k).toArray.size ≤ 36; simp; omega
      have hT : (hexS (rowF4 a k) 4).size = 8 := by show (hexL (rowF4 a k) 4).toArray.size = 8; simp [hexL_length]
      obtain ⟨t, ht⟩ : ∃ t : ByteArray, hexS (rowF4 a k) 4 = t := ⟨_, rfl⟩
      rw [ht] at C hT
      rw [hs]
      by_cases h0 : k = 0
      · subst h0
        have hlim : ¬ 9223372036854775807 < s.size + 8 := by omega
        have hv : s ++ t = ⟨(txL a (0 + 1)).toArray⟩ := by rw [← hs, ← ht, hst, if_pos rfl]; exact bytes_app _ _
        clear hs ht hst hsl
        have Hv := Lib.hid hv; clear hv
        go_upto_region 7 with fail
        go_region_law (go_simp; go_at_call 86; refine C.out.mono ?_; rintro e wx ⟨rfl, hbx⟩; have KX := carryB H2 hbx; have LX := carryS Hb2 hbx; clear hbx)
        all_goals go_wp2
        all_goals exact ⟨⟨0 + 1, by omega, by go_num, by rw [Hv.out], KX.out, LX.out⟩, by simp [intOf]⟩
      · have h0i : (0 : Int) < (k : Int) := by omega
        have h0n : 0 < k := by omega
        obtain ⟨u, hu⟩ : ∃ u : ByteArray, s ++ ⟨#[47]⟩ = u := ⟨_, rfl⟩
        have hus : u.size = s.size + 1 := by rw [← hu]; exact ByteArray.size_append
        have hlim0 : ¬ 9223372036854775807 < s.size + 1 := by omega
        have hlim : ¬ 9223372036854775807 < u.size + 8 := by omega
        have hv : u ++ t = ⟨(txL a (k + 1)).toArray⟩ := by rw [← hu, ← hs, ← ht, hst, if_neg h0, bytes_app]; exact bytes_app _ _
        clear hs ht hst hsl hus h0
        have Hv := Lib.hid hv; clear hv
        go_upto_region 7 with fail
        go_region_law (go_simp; go_at_call 86; refine C.out.mono ?_; rintro e wx ⟨rfl, hbx⟩; have KX := carryB H2 hbx; have LX := carryS Hb2 hbx; clear hbx)
        all_goals go_wp2
        all_goals exact ⟨⟨k + 1, by omega, by go_num, by rw [Hv.out], KX.out, LX.out⟩, by simp [intOf]; omega⟩
    · obtain rfl : k = 4 := by omega
      have H0 := Lib.hid b0; clear b0; have Hb := Lib.hid hb; clear hb
      go_wp2
      go_ret
      exact ⟨rfl, Hb.out⟩
end Go.Proofs.Ytnkfghoajpghkaa
