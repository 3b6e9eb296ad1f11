/- Contracts: the degree of a box, by the program and by the reference. No condition. -/
import Derived.Test.YtphfiekhpicpgaaShelf
namespace Go.Proofs.Ytphfiekhpicpgaa
open Go.RowKit Plain
set_option maxRecDepth 100000 in
set_option maxHeartbeats 1000000 in
theorem specDegreeOf (b : Nat → UInt8) (w : World) :
    Calls Try.prog 47 #[.agg (byteRow 256 b)] w fun e w' => e = .returned (.int .i64 (degMax (deg b 8) 256)) ∧ Below w.heap.size w w' := by
  obtain ⟨c, hc⟩ : ∃ c, deg b 8 = c := ⟨_, rfl⟩
  rw [hc]
  have Hc := Lib.hid hc; clear hc
  go_enter Try.func47, Try.ntmps47
  have k0 := Lib.hid (Blk.new w 27 (byteRow 256 b))
  go_wp2_with (first | (refine wpList_loadH rfl _ _ rfl _ rfl (by assumption) Try.underlying27 rfl size27 (byteRow_size _ _) ?_) | (refine wpList_storeR rfl _ _ _ rfl _ _ rfl rfl ((Blk.newAt (by simp)).eq_ zeroBox) size27 (byteRow_size _ _) (byteRow_size _ _) (byteRow_all _ _) ?_))
  go_loopw [4] (fun s wr => ∃ t q : Nat, t ≤ 8 ∧ q = 2 ^ t ∧ s = .int .i64 q ∧ Blk wr (w.heap.size + 1) 27 (byteRow 256 (deg b t)) ∧ Below w.heap.size w wr)
    (fun s _ => 256 - (intOf s).toNat)
  case atStart => exact ⟨0, 1, by omega, rfl, rfl, (Blk.newAt (w := w.alloc _) (by simp)).setRow _, below_row (((Below.refl _ _).alloc (by omega) _).alloc (by simp) _) (by omega) _⟩
  case round =>
    clear k0
    obtain ⟨t, q, ht, hq, rfl, k1, l⟩ := hrel
    have k1 := Lib.hid k1
    have l := Lib.hid l
    by_cases h8 : t < 8
    · have hp1 : 1 ≤ q := by rw [hq]; exact (pow_small h8).1
      have hp2 : q ≤ 128 := by rw [hq]; exact (pow_small h8).2
      have Hq := Lib.hid hq; clear hq
      obtain ⟨wo, rfl⟩ : ∃ wo : World, wo = wr := ⟨_, rfl⟩
      go_wp2
      go_loopw [5] (fun j wr => ∃ k : Nat, k ≤ 256 ∧ j = .int .i64 k ∧ Blk wr (w.heap.size + 1) 27 (byteRow 256 (xorTo q (deg b t) k)) ∧ Below w.heap.size w wr)
        (fun j _ => 256 - (intOf j).toNat)
      case atStart => exact ⟨0, by omega, rfl, k1.out.eq_ (byteRow_congr fun i _ => (xorTo_zero _ _ _).symm), l.out⟩
      case round =>
        clear k1 l
        obtain ⟨k, hk, rfl, h1, hb⟩ := hrel
        by_cases hlt : k < 256
        · have hki : (k : Int) < 256 := by omega
          have ea := long_and k q (by omega) (by omega)
          by_cases hz : k &&& q = 0
          · have e0 : bits .and .i64 (k : Int) (q : Int) = 0 := by rw [ea, hz]; rfl
            clear ea
            have H1 := Lib.hid h1; clear h1; have Hb := Lib.hid hb; clear hb; have Hz := Lib.hid hz; clear hz
            go_wp2
            go_roundw
            case rel => exact ⟨k + 1, by omega, by go_num, H1.out.eq_ (byteRow_congr fun i _ => xorTo_miss _ Hz.out i), Hb.out⟩
            case measure => simp [intOf]; omega
          · have hbf := bit_facts t h8 k hlt (by rw [← Hq.out]; exact hz)
            rw [← Hq.out] at hbf
            obtain ⟨f1, f2, f3⟩ := hbf
            have c1 := h1.byteAt hlt
            rw [xorTo_at] at c1
            have c2 := h1.byteAt (i := k - q) (by omega)
            rw [xorTo_low _ f2] at c2
            have fr := h1.frozen k
            have e0 : ((bits .and .i64 (k : Int) (q : Int)) != 0) = true := by
              rw [ea, bne_iff_ne]
              omega
            have es : ((k : Int) - (q : Int)) = ((k - q : Nat) : Int) := by omega
            have ex := b_xor (deg b t k) (deg b t (k - q))
            clear ea f3
            have Hes := Lib.hid es
            clear es
            have H1 := Lib.hid h1; clear h1; have Hb := Lib.hid hb; clear hb; have Hz := Lib.hid hz; clear hz; have H2 := Lib.hid f2; clear f2
            go_wp2
            go_region
            go_wp2
            go_roundw
            case rel => exact ⟨k + 1, by omega, by go_num, (H1.out.bytePut k (deg b t k ^^^ deg b t (k - q))).eq_ (byteRow_congr fun i _ => xorTo_hit _ Hz.out i), (Hb.out.setCell (p := ⟨w.heap.size + 1, k, none⟩) (by show _ ≤ _ + 1; omega) _).drew⟩
            case measure => simp [intOf]; omega
        · obtain rfl : k = 256 := by omega
          have H1 := Lib.hid h1; clear h1; have Hb := Lib.hid hb; clear hb
          go_wp2
          go_roundw
          case rel => exact ⟨t + 1, q * 2, by omega, by rw [Hq.out, Nat.pow_succ], by go_num, H1.out.eq_ (by rw [Hq.out]; rfl), Hb.out⟩
          case measure => simp [intOf]; omega
    · obtain rfl : t = 8 := by omega
      obtain rfl : q = 256 := hq
      clear ht h8
      have k1 := Lib.hid (k1.out.eq_ (by rw [Hc.out]))
      obtain ⟨wo, rfl⟩ : ∃ wo : World, wo = wr := ⟨_, rfl⟩
      go_wp2
      go_loopw [6, 7] (fun m y wr => ∃ k : Nat, k ≤ 256 ∧ y = .int .i64 k ∧ m = .int .i64 (degMax c k) ∧ Blk wr (w.heap.size + 1) 27 (byteRow 256 c) ∧ Below w.heap.size w wr)
        (fun _ y _ => 256 - (intOf y).toNat)
      case atStart => exact ⟨0, by omega, rfl, rfl, k1.out, l.out⟩
      case round =>
        clear k1 l
        obtain ⟨k, hk, rfl, rfl, h1, hb⟩ := hrel
        have hm := degMax_le c k hk
        by_cases hlt : k < 256
        · have hki : (k : Int) < 256 := by omega
          have c1 := h1.byteAt hlt
          have H1 := Lib.hid h1; clear h1; have Hb := Lib.hid hb; clear hb
          obtain ⟨wp, rfl⟩ : ∃ wp : World, wp = wr := ⟨_, rfl⟩
          go_wp2
          go_loop [8, 9] (fun o y => ∃ z p : Nat, z ≤ 255 ∧ y = .int .i64 z ∧ o = .int .i64 p ∧ p + pop z = pop k ∧ p ≤ 8) (fun _ y => (intOf y).toNat)
          case atStart => exact ⟨k, 0, by omega, rfl, rfl, by omega, by omega⟩
          case round =>
            obtain ⟨z, p, hz, rfl, rfl, hp, hp8⟩ := hrel
            by_cases h0 : 0 < z
            · have hs := pop_step (x := z) (by omega)
              have hpk : pop k ≤ 8 := pop_small 8 k (by omega)
              have hp9 : p + z % 2 ≤ 8 := by omega
              clear hpk
              have Hp := Lib.hid hp; clear hp; have Hs := Lib.hid hs; clear hs
              have h0' : (0 : Int) < z := by omega
              go_wp2
              go_round
              case rel => exact ⟨z / 2, p + z % 2, by omega, by go_num, by go_num, by have := Hp.out; have := Hs.out; omega, hp9⟩
              case measure => simp [intOf]; omega
            · obtain rfl : z = 0 := by omega
              rw [pop_zero] at hp
              by_cases hcz : c k = 0
              · have hcz' : (((c k).toNat : Int) != 0) = false := by rw [hcz]; rfl
                have hd : degMax c (k + 1) = degMax c k := by show (if c k = 0 then _ else _) = _; rw [if_pos hcz]
                have Hp := Lib.hid hp; clear hp; have Hcz := Lib.hid hcz; clear hcz; have Hd := Lib.hid hd; clear hd
                go_wp2
                go_roundw
                case rel => exact ⟨k + 1, by omega, by go_num, by rw [Hd.out], H1.out, Hb.out⟩
                case measure => simp [intOf]; omega
              · have hcz' : (((c k).toNat : Int) != 0) = true := by
                  rw [bne_iff_ne]
                  intro e
                  exact hcz (UInt8.toNat_inj.mp (by show (c k).toNat = 0; omega))
                have hd : degMax c (k + 1) = max (degMax c k) (p : Int) := by show (if c k = 0 then _ else _) = _; rw [if_neg hcz, show pop k = p by omega]
                have Hp := Lib.hid hp; clear hp; have Hcz := Lib.hid hcz; clear hcz; have Hd := Lib.hid hd; clear hd
                go_wp2
                go_roundw
                case rel => exact ⟨k + 1, by omega, by go_num, by rw [Hd.out, max_ite], H1.out, Hb.out⟩
                case measure => simp [intOf]; omega
        · obtain rfl : k = 256 := by omega
          have H1 := Lib.hid h1; clear h1; have Hb := Lib.hid hb; clear hb
          go_wp2
          go_ret
          exact ⟨rfl, Hb.out⟩
set_option maxRecDepth 100000 in
set_option maxHeartbeats 1000000 in
theorem implDegreeOf (b : Nat → UInt8) (w : World) :
    Calls Try.prog 46 #[.agg (byteRow 256 b)] w fun e w' => e = .returned (.int .i64 (degMax (deg b 8) 256)) ∧ Below w.heap.size w w' := by
  obtain ⟨c, hc⟩ : ∃ c, deg b 8 = c := ⟨_, rfl⟩
  rw [hc]
  have Hc := Lib.hid hc; clear hc
  go_enter Try.func46, Try.ntmps46
  go_wp2
  go_loopw [3] (fun s wr => ∃ t q : Nat, t ≤ 8 ∧ q = 2 ^ t ∧ s = .int .i64 q ∧ Blk wr w.heap.size 27 (byteRow 256 (deg b t)) ∧ Below w.heap.size w wr)
    (fun s _ => 256 - (intOf s).toNat)
  case atStart => exact ⟨0, 1, by omega, rfl, rfl, Blk.new _ _ _, (Below.refl _ _).alloc (by omega) _⟩
  case round =>
    obtain ⟨t, q, ht, hq, rfl, k1, l⟩ := hrel
    have k1 := Lib.hid k1
    have l := Lib.hid l
    by_cases h8 : t < 8
    · have hp1 : 1 ≤ q := by rw [hq]; exact (pow_small h8).1
      have hp2 : q ≤ 128 := by rw [hq]; exact (pow_small h8).2
      have Hq := Lib.hid hq; clear hq
      obtain ⟨wo, rfl⟩ : ∃ wo : World, wo = wr := ⟨_, rfl⟩
      go_wp2
      go_loopw [12] (fun j wr => ∃ k : Nat, k ≤ 256 ∧ j = .int .i64 k ∧ Blk wr w.heap.size 27 (byteRow 256 (xorTo q (deg b t) k)) ∧ Below w.heap.size w wr)
        (fun j _ => 256 - (intOf j).toNat)
      case atStart => exact ⟨0, by omega, rfl, k1.out.eq_ (byteRow_congr fun i _ => (xorTo_zero _ _ _).symm), l.out⟩
      case round =>
        clear k1 l
        obtain ⟨k, hk, rfl, h1, hb⟩ := hrel
        by_cases hlt : k < 256
        · have hki : (k : Int) < 256 := by omega
          have ea := long_and k q (by omega) (by omega)
          by_cases hz : k &&& q = 0
          · have e0 : bits .and .i64 (k : Int) (q : Int) = 0 := by rw [ea, hz]; rfl
            clear ea
            have H1 := Lib.hid h1; clear h1; have Hb := Lib.hid hb; clear hb; have Hz := Lib.hid hz; clear hz
            go_wp2
            go_roundw
            case rel => exact ⟨k + 1, by omega, by go_num, H1.out.eq_ (byteRow_congr fun i _ => xorTo_miss _ Hz.out i), Hb.out⟩
            case measure => simp [intOf]; omega
          · have hbf := bit_facts t h8 k hlt (by rw [← Hq.out]; exact hz)
            rw [← Hq.out] at hbf
            obtain ⟨f1, f2, f3⟩ := hbf
            have c1 := h1.byteAt hlt
            rw [xorTo_at] at c1
            have c2 := h1.byteAt (i := k - q) (by omega)
            rw [xorTo_low _ f2] at c2
            have fr := h1.frozen k
            have e0 : ((bits .and .i64 (k : Int) (q : Int)) != 0) = true := by
              rw [ea, bne_iff_ne]
              omega
            have ex := b_xor (deg b t k) (deg b t (k - q))
            have ey : bits .xor .i64 (k : Int) (q : Int) = ((k - q : Nat) : Int) := by rw [long_xor k q (by omega) (by omega), f3]
            have hkq : ((k - q : Nat) : Int) < 256 := by omega
            clear ea f3
            obtain ⟨r, hr⟩ : ∃ r, k - q = r := ⟨_, rfl⟩
            rw [hr] at c2 ex ey hkq
            have H1 := Lib.hid h1; clear h1; have Hb := Lib.hid hb; clear hb; have Hz := Lib.hid hz; clear hz; have H2 := Lib.hid f2; clear f2; have Hr := Lib.hid hr; clear hr
            go_wp2
            go_region
            go_wp2
            go_roundw
            case rel => exact ⟨k + 1, by omega, by go_num, (H1.out.bytePut k (deg b t k ^^^ deg b t r)).eq_ (byteRow_congr fun i _ => by rw [← Hr.out]; exact xorTo_hit _ Hz.out i), (Hb.out.setCell (p := ⟨w.heap.size, k, none⟩) (Nat.le_refl _) _).drew⟩
            case measure => simp [intOf]; omega
        · obtain rfl : k = 256 := by omega
          have H1 := Lib.hid h1; clear h1; have Hb := Lib.hid hb; clear hb
          go_wp2
          go_roundw
          case rel => exact ⟨t + 1, q * 2, by omega, by rw [Hq.out, Nat.pow_succ], by go_num, H1.out.eq_ (by rw [Hq.out]; rfl), Hb.out⟩
          case measure => simp [intOf]; omega
    · obtain rfl : t = 8 := by omega
      obtain rfl : q = 256 := hq
      clear ht h8
      have k1 := Lib.hid (k1.out.eq_ (by rw [Hc.out]))
      obtain ⟨wo, rfl⟩ : ∃ wo : World, wo = wr := ⟨_, rfl⟩
      go_wp2_with (refine wpList_loadH rfl _ _ rfl _ rfl (by assumption) Try.underlying27 rfl size27 (byteRow_size _ _) ?_)
      go_loop [5, 31] (fun m y => ∃ k : Nat, k ≤ 256 ∧ y = .int .i64 k ∧ m = .int .i64 (degMax c k))
        (fun _ y => 256 - (intOf y).toNat)
      case atStart => exact ⟨0, by omega, rfl, rfl⟩
      case round =>
        obtain ⟨k, hk, rfl, rfl⟩ := hrel
        have hm := degMax_le c k hk
        by_cases hlt : k < 256
        · have hki : (k : Int) < 256 := by omega
          have ix := fun (w : World) => run_index_row (w := w) .i64 Try.underlying27 sizeU1 (.inl Try.underlying5) hlt (byteRow_at c hlt)
          by_cases hcz : c k = 0
          · have hcz' : (((c k).toNat : Int) != 0) = false := by rw [hcz]; rfl
            have hd : degMax c (k + 1) = degMax c k := by show (if c k = 0 then _ else _) = _; rw [if_pos hcz]
            have Hcz := Lib.hid hcz; clear hcz; have Hd := Lib.hid hd; clear hd
            go_wp2
            go_round
            case rel => exact ⟨k + 1, by omega, by go_num, by rw [Hd.out]⟩
            case measure => simp [intOf]; omega
          · have hcz' : (((c k).toNat : Int) != 0) = true := by
              rw [bne_iff_ne]
              intro e
              exact hcz (UInt8.toNat_inj.mp (by show (c k).toNat = 0; omega))
            have hd : degMax c (k + 1) = max (degMax c k) (pop k : Int) := by show (if c k = 0 then _ else _) = _; rw [if_neg hcz]
            have hpk : pop k ≤ 8 := pop_small 8 k (by omega)
            have ho := onesCount8 (UInt8.ofNat k)
            rw [toNat_ofNat_lt hlt] at ho
            have ho' : ∀ wx, Calls Try.prog 81 #[.int .u8 (k : Int)] wx fun e w' => e = .returned (.int .i64 (pop k)) ∧ w' = wx := ho
            clear ho
            have Ho := Lib.hid ho'
            clear ho'
            have Hcz := Lib.hid hcz; clear hcz; have Hd := Lib.hid hd; clear hd
            go_wp2_with (go_at_call 81; refine (Ho.out _).mono ?_; rintro e wx ⟨rfl, rfl⟩)
            go_round
            case rel => exact ⟨k + 1, by omega, by go_num, by rw [Hd.out, max_ite]⟩
            case measure => simp [intOf]; omega
        · obtain rfl : k = 256 := by omega
          go_wp2
          go_ret
          exact ⟨rfl, l.out⟩
end Go.Proofs.Ytphfiekhpicpgaa
