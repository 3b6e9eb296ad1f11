/- Contracts: the bytes with a hex text, by the program and by the reference. No condition. -/
import Derived.Test.YtphfiekhpicpgaaRows
import Derived.Test.YtphfiekhpicpgaaDig
set_option linter.unusedVariables false
namespace Go.Proofs.Ytphfiekhpicpgaa
open Go.RowKit
set_option maxRecDepth 100000 in
set_option maxHeartbeats 400000 in
theorem l01Bytes (s : ByteArray) (w : World) (hn : s.size ≤ 5000000000) :
    Calls Try.prog 68 #[.string s] w fun e w' => Unhexed s e w w' := by
  obtain ⟨i0, hi, hz, hsz, hby⟩ := info_parts info_byte
  by_cases hodd : s.size % 2 = 1
  · have hu : unhex s = none := by unfold unhex; rw [if_pos hodd]
    have e1 : (s.size : Int).tmod 2 = 1 := by rw [Int.tmod_eq_emod_of_nonneg (by omega)]; omega
    have Hu := Lib.hid hu; clear hu
    clear hodd
    go_enter Try.func68, Try.ntmps68
    go_wp2_with fail
    go_ret2
    exact .inr ⟨Hu.out, rfl, (Below.refl _ _).alloc (by omega) _⟩
  · have e1 : (s.size : Int).tmod 2 = 0 := by rw [Int.tmod_eq_emod_of_nonneg (by omega)]; omega
    obtain ⟨m, hm⟩ : ∃ m, s.size = 2 * m := ⟨s.size / 2, by omega⟩
    have hue := unhex_even hm
    have HM := Lib.hid hm
    clear hm
    have Hue := Lib.hid hue; clear hue
    clear hodd
    go_enter Try.func68, Try.ntmps68
    go_wp2_with fail
    go_loopw [5, 4] (fun i v wr => ∃ (k : Nat) (l : List UInt8), k ≤ m ∧ i = .int .i64 ((2 * k : Nat) : Int) ∧ unhexTo (strF s) k = some l ∧ LB wr w.heap.size 5 v l ∧ Below w.heap.size w wr)
      (fun i _ _ => s.size - (intOf i).toNat)
    case atStart => exact ⟨0, [], by omega, rfl, rfl, LB.new (by simp) (by simp), (Below.refl _ _).alloc (by omega) _⟩
    case round =>
      obtain ⟨k, l, hk, rfl, hu, hl, hb⟩ := hrel
      have hlen := unhexTo_length hu
      have hsize := hb.size
      by_cases hlt : k < m
      · obtain ⟨j, hj⟩ : ∃ j, 2 * k = j := ⟨_, rfl⟩
        rw [hj]
        have hst := unhexTo_step hu
        rw [hj] at hst
        have hj1 : j + 1 < s.size := by have := HM.out; omega
        have hji : (j : Int) + 1 < (s.size : Int) := by have := HM.out; omega
        have hji0 : (j : Int) < (s.size : Int) := by have := HM.out; omega
        obtain ⟨c1, hc1⟩ : ∃ c, strF s j = c := ⟨_, rfl⟩
        obtain ⟨c2, hc2⟩ : ∃ c, strF s (j + 1) = c := ⟨_, rfl⟩
        rw [hc1, hc2] at hst
        have HJ := Lib.hid hj
        have hkm : k + 1 ≤ m := by omega
        have hlb : l.length < 100000000000 := by have := HM.out; omega
        have g1 : ∀ h : j < s.size, s[j]'h = c1 := fun h => (strF_at h).trans hc1
        have g2 : ∀ h : j + 1 < s.size, s[j + 1]'h = c2 := fun h => (strF_at h).trans hc2
        clear hc1 hc2 hu hj hlt hk
        have Hl := Lib.hid hl; clear hl; have Hb := Lib.hid hb; clear hb
        cases o1 : digOk c1 with
        | true =>
          have n1 := digN_lt o1
          have v1 : digV c1 = (digN c1 : Int) := by unfold digV; rw [if_pos o1]
          obtain ⟨d1, hd1⟩ : ∃ d, digN c1 = d := ⟨_, rfl⟩
          rw [hd1] at v1 n1 hst
          have n1i : (d1 : Int) < 16 := by omega
          cases o2 : digOk c2 with
          | true =>
            have n2 := digN_lt o2
            have v2 : digV c2 = (digN c2 : Int) := by unfold digV; rw [if_pos o2]
            obtain ⟨d2, hd2⟩ : ∃ d, digN c2 = d := ⟨_, rfl⟩
            rw [hd2] at v2 n2 hst
            have n2i : (d2 : Int) < 16 := by omega
            rw [if_pos ⟨o1, o2⟩] at hst
            obtain ⟨z, hz2⟩ : ∃ z, 16 * d1 + d2 = z := ⟨_, rfl⟩
            have m1 : (16 : Int) * (d1 : Int) + (d2 : Int) = (z : Int) := by omega
            have m2 := wrapU8_nat (q := z) (by omega)
            rw [hz2] at hst
            have hy : Value.int .u8 (z : Int) = .int .u8 ((UInt8.ofNat z).toNat : Int) := by rw [toNat_ofNat_lt (by omega)]
            clear hd1 hd2 hz2
            have Hst := Lib.hid hst; clear hst; have Hy := Lib.hid hy; clear hy
            go_upto_region 7 with fail
            go_quiet ((go_at_call 91; exact Calls.quiet_of_same (l01Digit _ _)))
            go_wp2_with (at_builtin; refine wpList_appendB rfl _ _ _ rfl w.heap.size 5 i0 Try.underlying22 hi hz hsz hby _ _ rfl ((Hl.out.drewN _).alloc _) _ 1 _ [UInt8.ofNat z] rfl rfl (one_cellV rfl Hy.out) hlb (by omega) (by simp; omega) ?_; intro vy wy hl hg; have BB := Lib.hid (below_grown ((below_drewN' Hb.out _).alloc (by simp; omega) _) hg (by simp; omega) (fun q hq => by have := (Hl.out.lt q hq).1; omega)); have LY := Lib.hid hl; clear hl hg)
            go_roundw
            case rel => exact ⟨k + 1, _, hkm, by rw [← HJ.out]; go_num, Hst.out, LY.out, BB.out⟩
            case measure => have := HM.out; have := HJ.out; simp [intOf]; omega
          | false =>
            have v2 : digV c2 = -1 := by unfold digV; rw [if_neg (by rw [o2]; simp)]
            rw [if_neg (fun h => by rw [o2] at h; cases h.2)] at hst
            have hno := unhexTo_none hst m hkm
            clear hd1 hst
            have Hno := Lib.hid hno; clear hno
            go_upto_region 7 with fail
            go_quiet ((go_at_call 91; exact Calls.quiet_of_same (l01Digit _ _)))
            go_wp2_with fail
            go_ret2
            exact .inr ⟨Hue.out.trans Hno.out, rfl, below_drewN' Hb.out _⟩
        | false =>
          have v1 : digV c1 = -1 := by unfold digV; rw [if_neg (by rw [o1]; simp)]
          rw [if_neg (fun h => by rw [o1] at h; cases h.1)] at hst
          have hno := unhexTo_none hst m hkm
          clear hst
          have Hno := Lib.hid hno; clear hno
          go_upto_region 7 with fail
          go_quiet ((go_at_call 91; exact Calls.quiet_of_same (l01Digit _ _)))
          go_wp2_with fail
          go_ret2
          exact .inr ⟨Hue.out.trans Hno.out, rfl, below_drewN' Hb.out _⟩
      · obtain rfl : k = m := by omega
        have hkb : k < 3000000000 := by have := HM.out; omega
        have hji : ¬ (2 * (k : Int) + 1) < (s.size : Int) := by have := HM.out; omega
        have Hl := Lib.hid hl; clear hl; have Hb := Lib.hid hb; clear hb; have Hu := Lib.hid hu; clear hu
        go_wp2_with fail
        go_ret2
        exact .inl ⟨_, l, Hue.out.trans Hu.out, rfl, Hl.out, Hb.out⟩
set_option maxRecDepth 100000 in
set_option maxHeartbeats 400000 in
theorem fromHex (s : ByteArray) (w : World) (hn : s.size ≤ 5000000000) :
    Calls Try.prog 66 #[.string s] w fun e w' => Unhexed s e w w' := by
  obtain ⟨i0, hi, hz, hsz, hby⟩ := info_parts info_byte
  by_cases hodd : s.size % 2 = 1
  · have hu : unhex s = none := by unfold unhex; rw [if_pos hodd]
    have e1 : (s.size : Int).tmod 2 = 1 := by rw [Int.tmod_eq_emod_of_nonneg (by omega)]; omega
    have Hu := Lib.hid hu; clear hu
    clear hodd
    go_enter Try.func66, Try.ntmps66
    go_wp2_with fail
    go_ret2
    exact .inr ⟨Hu.out, rfl, (Below.refl _ _).alloc (by omega) _⟩
  · have e1 : (s.size : Int).tmod 2 = 0 := by rw [Int.tmod_eq_emod_of_nonneg (by omega)]; omega
    obtain ⟨m, hm⟩ : ∃ m, s.size = 2 * m := ⟨s.size / 2, by omega⟩
    have hue := unhex_even hm
    have HM := Lib.hid hm
    clear hm
    have Hue := Lib.hid hue; clear hue
    clear hodd
    go_enter Try.func66, Try.ntmps66
    go_wp2_with fail
    go_loopw [5, 4] (fun i v wr => ∃ (k : Nat) (l : List UInt8), k ≤ m ∧ i = .int .i64 ((2 * k : Nat) : Int) ∧ unhexTo (strF s) k = some l ∧ LB wr w.heap.size 5 v l ∧ Below w.heap.size w wr)
      (fun i _ _ => s.size - (intOf i).toNat)
    case atStart => exact ⟨0, [], by omega, rfl, rfl, LB.new (by simp) (by simp), (Below.refl _ _).alloc (by omega) _⟩
    case round =>
      obtain ⟨k, l, hk, rfl, hu, hl, hb⟩ := hrel
      have hlen := unhexTo_length hu
      have hsize := hb.size
      by_cases hlt : k < m
      · obtain ⟨j, hj⟩ : ∃ j, 2 * k = j := ⟨_, rfl⟩
        rw [hj]
        have hst := unhexTo_step hu
        rw [hj] at hst
        have hj1 : j + 1 < s.size := by have := HM.out; omega
        have hji : (j : Int) + 1 < (s.size : Int) := by have := HM.out; omega
        have hji0 : (j : Int) < (s.size : Int) := by have := HM.out; omega
        obtain ⟨c1, hc1⟩ : ∃ c, strF s j = c := ⟨_, rfl⟩
        obtain ⟨c2, hc2⟩ : ∃ c, strF s (j + 1) = c := ⟨_, rfl⟩
        rw [hc1, hc2] at hst
        have HJ := Lib.hid hj
        have hkm : k + 1 ≤ m := by omega
        have hlb : l.length < 100000000000 := by have := HM.out; omega
        have g1 : ∀ h : j < s.size, s[j]'h = c1 := fun h => (strF_at h).trans hc1
        have g2 : ∀ h : j + 1 < s.size, s[j + 1]'h = c2 := fun h => (strF_at h).trans hc2
        clear hc1 hc2 hu hj hlt hk
        have Hl := Lib.hid hl; clear hl; have Hb := Lib.hid hb; clear hb
        cases o1 : digOk c1 with
        | true =>
          have n1 := digN_lt o1
          have v1 : digM c1 = digN c1 := by unfold digM; rw [if_pos o1]
          obtain ⟨d1, hd1⟩ : ∃ d, digN c1 = d := ⟨_, rfl⟩
          rw [hd1] at v1 n1 hst
          have n1i : (d1 : Int) < 16 := by omega
          cases o2 : digOk c2 with
          | true =>
            have n2 := digN_lt o2
            have v2 : digM c2 = digN c2 := by unfold digM; rw [if_pos o2]
            obtain ⟨d2, hd2⟩ : ∃ d, digN c2 = d := ⟨_, rfl⟩
            rw [hd2] at v2 n2 hst
            have n2i : (d2 : Int) < 16 := by omega
            rw [if_pos ⟨o1, o2⟩] at hst
            obtain ⟨z, hz2⟩ : ∃ z, 16 * d1 + d2 = z := ⟨_, rfl⟩
            obtain ⟨y, hy2⟩ : ∃ y, d1 * 16 = y := ⟨_, rfl⟩
            have m1 := bits_hex n1 n2
            rw [hz2, hy2] at m1
            have m3 : (d1 : Int) * 16 = (y : Int) := by omega
            have m4 := wrapU8_nat (q := y) (by omega)
            clear hy2
            have m2 := wrapU8_nat (q := z) (by omega)
            rw [hz2] at hst
            have hy : Value.int .u8 (z : Int) = .int .u8 ((UInt8.ofNat z).toNat : Int) := by rw [toNat_ofNat_lt (by omega)]
            clear hd1 hd2 hz2
            have Hst := Lib.hid hst; clear hst; have Hy := Lib.hid hy; clear hy
            go_wp2_with (first | (go_at_call 90; refine (hexDigit _ _).mono ?_; rintro e wx ⟨rfl, rfl⟩) | (at_builtin; refine wpList_appendB rfl _ _ _ rfl w.heap.size 5 i0 Try.underlying22 hi hz hsz hby _ _ rfl (Hl.out.alloc _) _ 1 _ [UInt8.ofNat z] rfl rfl (one_cellV rfl Hy.out) hlb (by omega) (by simp; omega) ?_; intro vy wy hl hg; have BB := Lib.hid (below_grown (Hb.out.alloc (by omega) _) hg (by simp; omega) (fun q hq => by have := (Hl.out.lt q hq).1; omega)); have LY := Lib.hid hl; clear hl hg))
            go_roundw
            case rel => exact ⟨k + 1, _, hkm, by rw [← HJ.out]; go_num, Hst.out, LY.out, BB.out⟩
            case measure => have := HM.out; have := HJ.out; simp [intOf]; omega
          | false =>
            have v2 : digM c2 = 0 := by unfold digM; rw [if_neg (by rw [o2]; simp)]
            rw [if_neg (fun h => by rw [o2] at h; cases h.2)] at hst
            have hno := unhexTo_none hst m hkm
            clear hd1 hst
            have Hno := Lib.hid hno; clear hno
            go_wp2_with (go_at_call 90; refine (hexDigit _ _).mono ?_; rintro e wx ⟨rfl, rfl⟩)
            go_wp2_with fail
            go_ret2
            exact .inr ⟨Hue.out.trans Hno.out, rfl, Hb.out⟩
        | false =>
          have v1 : digM c1 = 0 := by unfold digM; rw [if_neg (by rw [o1]; simp)]
          rw [if_neg (fun h => by rw [o1] at h; cases h.1)] at hst
          have hno := unhexTo_none hst m hkm
          clear hst
          have Hno := Lib.hid hno; clear hno
          go_wp2_with (go_at_call 90; refine (hexDigit _ _).mono ?_; rintro e wx ⟨rfl, rfl⟩)
          go_wp2_with fail
          go_ret2
          exact .inr ⟨Hue.out.trans Hno.out, rfl, Hb.out⟩
      · obtain rfl : k = m := by omega
        have hkb : k < 3000000000 := by have := HM.out; omega
        have hji : ¬ (2 * (k : Int)) < (s.size : Int) := by have := HM.out; omega
        have Hl := Lib.hid hl; clear hl; have Hb := Lib.hid hb; clear hb; have Hu := Lib.hid hu; clear hu
        go_wp2_with fail
        go_ret2
        exact .inl ⟨_, l, Hue.out.trans Hu.out, rfl, Hl.out, Hb.out⟩
end Go.Proofs.Ytphfiekhpicpgaa
