/- Contracts: orders and generators, by the program and by the reference. No condition. -/
import Derived.Test.YtcfmaicmlcmleaaRows
import Derived.Test.YtcfmaicmlcmleaaFieldA
namespace Go.Proofs.Ytcfmaicmlcmleaa
open Go.RowKit Plain
def orderV (m : Int) (a : Nat) : Int × Int := if fieldB m then (if a = 0 then (0, 5) else (orderN m.toNat a, 0)) else (0, 1)
def generatorV (m : Int) : Int × Int := if fieldB m then (leastGen m.toNat, 0) else (0, 1)
theorem mem_nat {n : Nat} (h : fieldB n = true) : n ∈ fieldList := by
  obtain ⟨k, hk, h1, h2, h3⟩ := fieldB_nat h
  obtain rfl : n = k := by omega
  exact mem_of_field h1 h2 h3
theorem orderN_le {m : Nat} (h : m ∈ fieldList) {a : Nat} (h0 : 0 < a) (ha : a < 256) : orderN m a ≤ 255 := by
  obtain ⟨j, hj, _, _, ho⟩ := order_some h h0 ha
  omega
set_option maxRecDepth 100000 in
set_option maxHeartbeats 400000 in
theorem l01Order (m a : Nat) (hm : m ∈ fieldList) (h0 : 0 < a) (ha : a < 256) (w : World) :
    Calls Try.prog 54 #[.int .i64 (m : Int), .int .u8 (a : Int)] w fun e w' => e = .returned (.int .i64 (orderN m a : Int)) ∧ w' = w := by
  obtain ⟨h1, h2⟩ := mem_bounds m hm
  obtain ⟨q, hq, hq1, hmin, ho⟩ := order_some hm h0 ha
  have hll := lpw_lt (g := a) h1 h2
  have ho1 := one_left hm ha
  clear hm
  have Hq1 := Lib.hid hq1; clear hq1; have Hmin := Lib.hid hmin; clear hmin; have Ho := Lib.hid ho; clear ho; have Hll := Lib.hid hll; clear hll; have Ho1 := Lib.hid ho1; clear ho1
  go_enter Try.func54, Try.ntmps54
  go_wp2
  go_loop [5, 6] (fun x y => ∃ k : Nat, k ≤ q ∧ x = .int .i64 ((k : Int) + 1) ∧ y = .int .u8 (lpw m a (k + 1) : Int)) (fun x _ => 300 - (intOf x).toNat)
  case atStart => exact ⟨0, by omega, rfl, by rw [show lpw m a (0 + 1) = a from Ho1.out]⟩
  case round =>
    obtain ⟨k, hk, rfl, rfl⟩ := hrel
    have hkl := Hll.out (k + 1)
    by_cases hlt : k < q
    · have hne := Hmin.out k hlt
      have e1 : ((lpw m a (k + 1) : Int) == 1) = false := by rw [beq_eq_false_iff_ne]; omega
      have D := Lib.hid (l01Times m (lpw m a (k + 1)) a h1 h2 hkl ha)
      clear hne
      go_wp2_with (go_at_call 46; refine (D.out _).mono ?_; rintro e wx ⟨rfl, rfl⟩)
      go_round
      case rel => exact ⟨k + 1, by omega, by go_num, rfl⟩
      case measure => simp [intOf]; omega
    · obtain rfl : k = q := by omega
      have e1 : ((lpw m a (k + 1) : Int) == 1) = true := by rw [Hq1.out]; rfl
      go_wp2
      go_ret
      exact ⟨ret_int (by rw [Ho.out]; push_cast; rfl), rfl⟩
set_option maxRecDepth 100000 in
set_option maxHeartbeats 400000 in
theorem fOrder (m a : Nat) (hm : m ∈ fieldList) (h0 : 0 < a) (ha : a < 256) (w : World) :
    Calls Try.prog 55 #[.int .i64 (m : Int), .int .u8 (a : Int)] w fun e w' => e = .returned (.int .i64 (orderN m a : Int)) ∧ w' = w := by
  obtain ⟨h1, h2⟩ := mem_bounds m hm
  obtain ⟨q, hq, hq1, hmin, ho⟩ := order_some hm h0 ha
  have hll := lpw_lt (g := a) h1 h2
  have ho1 := one_left hm ha
  clear hm
  have Hq1 := Lib.hid hq1; clear hq1; have Hmin := Lib.hid hmin; clear hmin; have Ho := Lib.hid ho; clear ho; have Hll := Lib.hid hll; clear hll; have Ho1 := Lib.hid ho1; clear ho1
  go_enter Try.func55, Try.ntmps55
  go_wp2
  go_loop [5, 6] (fun x y => ∃ k : Nat, k ≤ q ∧ x = .int .i64 ((k : Int) + 1) ∧ y = .int .u8 (lpw m a (k + 1) : Int)) (fun x _ => 300 - (intOf x).toNat)
  case atStart => exact ⟨0, by omega, rfl, by rw [show lpw m a (0 + 1) = a from Ho1.out]⟩
  case round =>
    obtain ⟨k, hk, rfl, rfl⟩ := hrel
    have hkl := Hll.out (k + 1)
    by_cases hlt : k < q
    · have hne := Hmin.out k hlt
      have e1 : ((lpw m a (k + 1) : Int) == 1) = false := by rw [beq_eq_false_iff_ne]; omega
      have D := Lib.hid (fTimes m (lpw m a (k + 1)) a h1 h2 hkl ha)
      clear hne
      go_wp2_with (go_at_call 47; refine (D.out _).mono ?_; rintro e wx ⟨rfl, rfl⟩)
      go_round
      case rel => exact ⟨k + 1, by omega, by go_num, rfl⟩
      case measure => simp [intOf]; omega
    · obtain rfl : k = q := by omega
      have e1 : ((lpw m a (k + 1) : Int) == 1) = true := by rw [Hq1.out]; rfl
      go_wp2
      go_ret
      exact ⟨ret_int (by rw [Ho.out]; push_cast; rfl), rfl⟩
set_option maxHeartbeats 400000 in
theorem l01Generator (n : Nat) (hm : n ∈ fieldList) (w : World) :
    Calls Try.prog 56 #[.int .i64 (n : Int)] w fun e w' => e = .returned (.int .u8 (leastGen n : Int)) ∧ w' = w := by
  obtain ⟨q, hq, hq1, hmin, ho⟩ := leastGen_spec hm
  have Hq1 := Lib.hid hq1; clear hq1; have Hmin := Lib.hid hmin; clear hmin; have Ho := Lib.hid ho; clear ho
  go_enter Try.func56, Try.ntmps56
  go_wp2
  go_loop [3] (fun z => ∃ k : Nat, k ≤ q ∧ z = .int .u8 ((k : Int) + 2)) (fun z => 300 - (intOf z).toNat)
  case atStart => exact ⟨0, by omega, rfl⟩
  case round =>
    obtain ⟨k, hk, rfl⟩ := hrel
    have D := Lib.hid (l01Order n (k + 2) hm (by omega) (by omega))
    have hle := orderN_le hm (a := k + 2) (by omega) (by omega)
    by_cases hlt : k < q
    · have e1 : ((orderN n (k + 2) : Int) == 255) = false := by
        have := Hmin.out k (by omega)
        unfold genB at this
        rw [beq_eq_false_iff_ne] at this ⊢
        omega
      have Hle := Lib.hid hle; clear hle
      go_wp2_with fail
      refine (D.out _).mono ?_
      rintro e wx ⟨rfl, rfl⟩
      go_wp2_with fail
      go_round
      case rel => exact ⟨k + 1, by omega, by go_num⟩
      case measure => simp [intOf]; omega
    · obtain rfl : k = q := by omega
      have e1 : ((orderN n (k + 2) : Int) == 255) = true := by
        have := Hq1.out
        unfold genB at this
        rw [beq_iff_eq] at this ⊢
        omega
      have Hle := Lib.hid hle; clear hle
      go_wp2_with fail
      refine (D.out _).mono ?_
      rintro e wx ⟨rfl, rfl⟩
      go_wp2_with fail
      go_ret
      exact ⟨ret_int (by rw [Ho.out]; push_cast; omega), rfl⟩
set_option maxRecDepth 100000 in
set_option maxHeartbeats 800000 in
theorem specOrderIn (m : Int) (a : Nat) (ha : a < 256) (w : World) :
    Calls Try.prog 31 #[.int .i64 m, .int .u8 (a : Int)] w fun e w' => e = .returned (.tuple #[.int .i64 (orderV m a).1, .int .i64 (orderV m a).2]) ∧ w' = w := by
  cases hf : fieldB m with
  | false =>
    have hv : orderV m a = (0, 1) := by unfold orderV; rw [hf]; rfl
    have c := l01Field m
    rw [hf] at c
    have C := Lib.hid c
    clear c hf
    have Hv := Lib.hid hv; clear hv
    go_enter Try.func31, Try.ntmps31
    go_wp2_with (go_at_call 43; refine (C.out _).mono ?_; rintro e wx ⟨rfl, rfl⟩)
    go_ret2
    exact ⟨ret_pairV Hv.out, rfl⟩
  | true =>
    have c := l01Field m
    rw [hf] at c
    have C := Lib.hid c
    clear c
    obtain ⟨n, rfl, h1, h2, hF⟩ := fieldB_nat hf
    have hm := mem_of_field h1 h2 hF
    clear hF
    by_cases h0 : a = 0
    · subst h0
      have hv : orderV n 0 = (0, 5) := by unfold orderV; rw [hf]; rfl
      clear hf
      have Hv := Lib.hid hv; clear hv
      go_enter Try.func31, Try.ntmps31
      go_wp2_with (go_at_call 43; refine (C.out _).mono ?_; rintro e wx ⟨rfl, rfl⟩)
      go_ret2
      exact ⟨ret_pairV Hv.out, rfl⟩
    · have hv : orderV n a = (((orderN n a : Nat) : Int), 0) := by unfold orderV; rw [hf, if_pos rfl, if_neg h0]; rfl
      have D := Lib.hid (l01Order n a hm (by omega) ha)
      have hl := orderN_le hm (a := a) (by omega) ha
      have e0 : ((a : Int) == 0) = false := by rw [beq_eq_false_iff_ne]; omega
      clear hf
      have Hv := Lib.hid hv; clear hv
      go_enter Try.func31, Try.ntmps31
      go_wp2_with (first | (go_at_call 43; refine (C.out _).mono ?_; rintro e wx ⟨rfl, rfl⟩) | (go_at_call 54; refine (D.out _).mono ?_; rintro e wx ⟨rfl, rfl⟩))
      go_ret2
      exact ⟨ret_pairV Hv.out, rfl⟩
set_option maxRecDepth 100000 in
set_option maxHeartbeats 800000 in
theorem specLeastGenerator (m : Int) (w : World) :
    Calls Try.prog 33 #[.int .i64 m] w fun e w' => e = .returned (.tuple #[.int .u8 (generatorV m).1, .int .i64 (generatorV m).2]) ∧ w' = w := by
  cases hf : fieldB m with
  | false =>
    have hv : generatorV m = (0, 1) := by unfold generatorV; rw [hf]; rfl
    have c := l01Field m
    rw [hf] at c
    have C := Lib.hid c
    clear c hf
    have Hv := Lib.hid hv; clear hv
    go_enter Try.func33, Try.ntmps33
    go_wp2_with (go_at_call 43; refine (C.out _).mono ?_; rintro e wx ⟨rfl, rfl⟩)
    go_ret2
    exact ⟨ret_pairV Hv.out, rfl⟩
  | true =>
    have c := l01Field m
    rw [hf] at c
    have C := Lib.hid c
    clear c
    obtain ⟨n, rfl, h1, h2, hF⟩ := fieldB_nat hf
    have hm := mem_of_field h1 h2 hF
    clear hF
    have hv : generatorV n = (((leastGen n : Nat) : Int), 0) := by unfold generatorV; rw [hf]; rfl
    have D := Lib.hid (l01Generator n hm)
    have hl : leastGen n < 256 := by obtain ⟨q, hq, _, _, ho⟩ := leastGen_spec hm; omega
    clear hf
    have Hv := Lib.hid hv; clear hv
    go_enter Try.func33, Try.ntmps33
    go_wp2_with (first | (go_at_call 43; refine (C.out _).mono ?_; rintro e wx ⟨rfl, rfl⟩) | (go_at_call 56; refine (D.out _).mono ?_; rintro e wx ⟨rfl, rfl⟩))
    go_ret2
    exact ⟨ret_pairV Hv.out, rfl⟩
set_option maxRecDepth 100000 in
set_option maxHeartbeats 800000 in
theorem implOrderIn (m : Int) (a : Nat) (ha : a < 256) (w : World) :
    Calls Try.prog 32 #[.int .i64 m, .int .u8 (a : Int)] w fun e w' => e = .returned (.tuple #[.int .i64 (orderV m a).1, .int .i64 (orderV m a).2]) ∧ w' = w := by
  cases hf : fieldB m with
  | false =>
    have hv : orderV m a = (0, 1) := by unfold orderV; rw [hf]; rfl
    have c := implIsField m
    rw [hf] at c
    have C := Lib.hid c
    clear c hf
    have Hv := Lib.hid hv; clear hv
    go_enter Try.func32, Try.ntmps32
    go_wp2_with (go_at_call 16; refine (C.out _).mono ?_; rintro e wx ⟨rfl, rfl⟩)
    go_ret2
    exact ⟨ret_pairV Hv.out, rfl⟩
  | true =>
    have c := implIsField m
    rw [hf] at c
    have C := Lib.hid c
    clear c
    obtain ⟨n, rfl, h1, h2, hF⟩ := fieldB_nat hf
    have hm := mem_of_field h1 h2 hF
    clear hF
    by_cases h0 : a = 0
    · subst h0
      have hv : orderV n 0 = (0, 5) := by unfold orderV; rw [hf]; rfl
      clear hf
      have Hv := Lib.hid hv; clear hv
      go_enter Try.func32, Try.ntmps32
      go_wp2_with (go_at_call 16; refine (C.out _).mono ?_; rintro e wx ⟨rfl, rfl⟩)
      go_ret2
      exact ⟨ret_pairV Hv.out, rfl⟩
    · have hv : orderV n a = (((orderN n a : Nat) : Int), 0) := by unfold orderV; rw [hf, if_pos rfl, if_neg h0]; rfl
      have D := Lib.hid (fOrder n a hm (by omega) ha)
      have hl := orderN_le hm (a := a) (by omega) ha
      have e0 : ((a : Int) == 0) = false := by rw [beq_eq_false_iff_ne]; omega
      clear hf
      have Hv := Lib.hid hv; clear hv
      go_enter Try.func32, Try.ntmps32
      go_wp2_with (first | (go_at_call 16; refine (C.out _).mono ?_; rintro e wx ⟨rfl, rfl⟩) | (go_at_call 55; refine (D.out _).mono ?_; rintro e wx ⟨rfl, rfl⟩))
      go_ret2
      exact ⟨ret_pairV Hv.out, rfl⟩
set_option maxRecDepth 100000 in
set_option maxHeartbeats 800000 in
theorem implLeastGenerator (m : Int) (w : World) :
    Calls Try.prog 34 #[.int .i64 m] w fun e w' => e = .returned (.tuple #[.int .u8 (generatorV m).1, .int .i64 (generatorV m).2]) ∧ w' = w := by
  cases hf : fieldB m with
  | false =>
    have hv : generatorV m = (0, 1) := by unfold generatorV; rw [hf]; rfl
    have c := implIsField m
    rw [hf] at c
    have C := Lib.hid c
    clear c hf
    have Hv := Lib.hid hv; clear hv
    go_enter Try.func34, Try.ntmps34
    go_wp2_with (go_at_call 16; refine (C.out _).mono ?_; rintro e wx ⟨rfl, rfl⟩)
    go_ret2
    exact ⟨ret_pairV Hv.out, rfl⟩
  | true =>
    have c := implIsField m
    rw [hf] at c
    have C := Lib.hid c
    clear c
    obtain ⟨n, rfl, h1, h2, hF⟩ := fieldB_nat hf
    have hm := mem_of_field h1 h2 hF
    clear hF
    obtain ⟨q, hq, hq1, hmin, ho⟩ := leastGen_spec hm
    have hv : generatorV n = (((q + 2 : Nat) : Int), 0) := by unfold generatorV; rw [hf, if_pos rfl, Int.toNat_natCast, ho]
    clear hf ho
    have Hv := Lib.hid hv; clear hv; have Hq1 := Lib.hid hq1; clear hq1; have Hmin := Lib.hid hmin; clear hmin
    go_enter Try.func34, Try.ntmps34
    go_wp2_with (go_at_call 16; refine (C.out _).mono ?_; rintro e wx ⟨rfl, rfl⟩)
    go_loop [4] (fun z => ∃ k : Nat, k ≤ q + 1 ∧ z = .int .u8 ((k : Int) + 1)) (fun z => 300 - (intOf z).toNat)
    case atStart => exact ⟨0, by omega, rfl⟩
    case round =>
      obtain ⟨k, hk, rfl⟩ := hrel
      have D := Lib.hid (fOrder n (k + 1) hm (by omega) (by omega))
      have hle := orderN_le hm (a := k + 1) (by omega) (by omega)
      by_cases hlt : k < q + 1
      · have e1 : ((orderN n (k + 1) : Int) == 255) = false := by
          cases k with
          | zero =>
            have := order_one hm
            rw [beq_eq_false_iff_ne]
            show ((orderN n 1 : Nat) : Int) ≠ 255
            omega
          | succ k =>
            have := Hmin.out k (by omega)
            unfold genB at this
            rw [beq_eq_false_iff_ne] at this ⊢
            show ((orderN n (k + 2) : Nat) : Int) ≠ 255
            omega
        have Hle := Lib.hid hle; clear hle
        go_wp2_with fail
        refine (D.out _).mono ?_
        rintro e wx ⟨rfl, rfl⟩
        go_wp2_with fail
        go_round
        case rel => exact ⟨k + 1, by omega, by go_num⟩
        case measure => simp [intOf]; omega
      · obtain rfl : k = q + 1 := by omega
        have e1 : ((orderN n (q + 1 + 1) : Int) == 255) = true := by
          have := Hq1.out
          unfold genB at this
          rw [beq_iff_eq] at this ⊢
          show ((orderN n (q + 2) : Nat) : Int) = 255
          omega
        have Hle := Lib.hid hle; clear hle
        go_wp2_with fail
        refine (D.out _).mono ?_
        rintro e wx ⟨rfl, rfl⟩
        go_wp2_with fail
        go_ret2
        exact ⟨ret_pairV (by rw [Hv.out]; first | rfl | (congr 1; push_cast; omega) | (congr 1)), rfl⟩
end Go.Proofs.Ytcfmaicmlcmleaa
