/- Contracts: ranges, remainders, fields and products, by the program and by the reference. No condition. -/
import Derived.Test.YtphfiekhpicpgaaRows
import Derived.Test.YtphfiekhpicpgaaKit
import Derived.Test.YtphfiekhpicpgaaFieldP
import Derived.Test.YtphfiekhpicpgaaRange
namespace Go.Proofs.Ytphfiekhpicpgaa
open Go.RowKit Plain
/-- Is m a field? -/
def fieldB (m : Int) : Bool := inB m 256 511 && isFS m.toNat
theorem fieldB_nat {m : Int} (h : fieldB m = true) : ∃ n : Nat, m = n ∧ 256 ≤ n ∧ n < 512 ∧ isFS n = true := by
  unfold fieldB inB at h
  simp only [Bool.and_eq_true, decide_eq_true_eq] at h
  exact ⟨m.toNat, by omega, by omega, by omega, h.2⟩
theorem wrap_small {x : Nat} (h : x < 65536) : wrap64 (x : Int) = (x : Int) := by
  unfold wrap64; omega
theorem sh_and {y : Nat} (k : Nat) (hy : y < 65536) : bits .and .i64 ((y : Int) / 2 ^ k) 1 = ((y / 2 ^ k % 2 : Nat) : Int) := by
  have h := long_and (y / 2 ^ k) 1 (Nat.lt_of_le_of_lt (Nat.div_le_self _ _) hy) (by omega)
  rw [Nat.and_one_is_mod] at h
  rw [← h]
  push_cast
  rfl
theorem sh_mul (m k : Nat) (h : m * 2 ^ k < 65536) : wrap64 ((m : Int) * 2 ^ k) = (m : Int) * 2 ^ k := by
  have := wrap_small h
  push_cast at this
  exact this
theorem lx_mul {y m k : Nat} (hy : y < 65536) (h : m * 2 ^ k < 65536) : bits .xor .i64 (y : Int) ((m : Int) * 2 ^ k) = ((y ^^^ (m * 2 ^ k) : Nat) : Int) := by
  rw [← long_xor _ _ hy h]
  push_cast
  rfl
set_option maxHeartbeats 400000 in
theorem l01Length (x : Nat) (hx : x < 1048576) (w : World) :
    Calls Try.prog 93 #[.int .i64 (x : Int)] w fun e w' => e = .returned (.int .i64 (lenN x : Int)) ∧ w' = w := by
  go_enter Try.func93, Try.ntmps93
  go_wp2
  go_loop [0, 3] (fun y o => ∃ z q : Nat, z < 1048576 ∧ y = .int .i64 z ∧ o = .int .i64 q ∧ q + lenN z = lenN x ∧ q + z < 1048600) (fun y _ => (intOf y).toNat)
  case atStart => exact ⟨x, 0, hx, rfl, rfl, by omega, by omega⟩
  case round =>
    obtain ⟨z, q, hz, rfl, rfl, hp, hq⟩ := hrel
    by_cases h0 : 0 < z
    · have hs := lenN_step h0 hz
      have Hp := Lib.hid hp; clear hp; have Hs := Lib.hid hs; clear hs
      have h0' : (0 : Int) < z := by omega
      go_wp2
      go_round
      case rel => exact ⟨z / 2, q + 1, by omega, by go_num, by go_num, by have := Hp.out; have := Hs.out; omega, by omega⟩
      case measure => simp [intOf]; omega
    · obtain rfl : z = 0 := by omega
      rw [lenN_zero, Nat.add_zero] at hp
      have Hp := Lib.hid hp; clear hp
      go_wp2
      go_ret
      exact ⟨ret_int (by rw [Hp.out]), rfl⟩
theorem sub_nat {a b : Nat} (h : b ≤ a) : ((a : Int) - (b : Int)) = ((a - b : Nat) : Int) := by omega
set_option maxHeartbeats 400000 in
theorem l01Rest (a b : Nat) (ha : a < 512) (hb1 : 2 ≤ b) (hb2 : b < 32) (w : World) :
    Calls Try.prog 86 #[.int .i64 (a : Int), .int .i64 (b : Int)] w fun e w' => e = .returned (.int .i64 (restS a b : Int)) ∧ w' = w := by
  have hla := len_small a ha
  have hlb := len_small b (by omega)
  obtain ⟨lb, hlbe⟩ : ∃ lb, lenN b = lb := ⟨_, rfl⟩
  have cb := l01Length b (by omega)
  have ca := l01Length a (by omega)
  rw [hlbe] at cb hlb
  have Hlbe := Lib.hid hlbe; clear hlbe
  have Cb := Lib.hid cb
  clear cb
  have Ca := Lib.hid ca
  clear ca
  go_enter Try.func86, Try.ntmps86
  go_wp2_with fail
  refine (Cb.out _).mono ?_
  rintro e wx ⟨rfl, rfl⟩
  go_wp2_with fail
  refine (Ca.out _).mono ?_
  rintro e wx ⟨rfl, rfl⟩
  go_wp2_with fail
  go_loop [0, 6] (fun x n => ∃ y f : Nat, y < 512 ∧ x = .int .i64 y ∧ n = .int .i64 (lenN y : Int) ∧ RS b f y = restS a b ∧ lenN y ≤ f) (fun _ n => (intOf n).toNat)
  case atStart => exact ⟨a, 10, ha, rfl, rfl, rfl, by omega⟩
  case round =>
    obtain ⟨y, f, hy, rfl, rfl, hr, hf⟩ := hrel
    by_cases hl : lb ≤ lenN y
    · have hfa := rs_facts hb1 hb2 hy (by rw [Hlbe.out]; exact hl)
      rw [Hlbe.out] at hfa
      obtain ⟨f1, f2, f3, f4⟩ := hfa
      have ex := sh_mul b (lenN y - lb) f3
      have ey := lx_mul (y := y) (by omega) f3
      have hr2 : RS b (f - 1) (y ^^^ (b * 2 ^ (lenN y - lb))) = restS a b := by
        rw [← hr]
        obtain ⟨f', rfl⟩ : ∃ f', f = f' + 1 := ⟨f - 1, by omega⟩
        show _ = if lenN b ≤ lenN y then _ else _
        rw [Hlbe.out, if_pos hl]
        rfl
      obtain ⟨z, hz⟩ : ∃ z, y ^^^ (b * 2 ^ (lenN y - lb)) = z := ⟨_, rfl⟩
      rw [hz] at f1 f2 ey hr2
      have cz := l01Length z (by omega)
      have Cz := Lib.hid cz
      clear cz hz hr f3
      have hli : (lb : Int) ≤ (lenN y : Int) := by omega
      have Hr2 := Lib.hid hr2; clear hr2
      go_wp2_with fail
      refine (Cz.out _).mono ?_
      rintro e wx ⟨rfl, rfl⟩
      go_wp2_with fail
      go_round
      case rel => exact ⟨z, f - 1, f2, by go_num, rfl, Hr2.out, by omega⟩
      case measure => simp [intOf]; omega
    · have hr2 : restS a b = y := by
        rw [← hr]
        cases f with
        | zero => rfl
        | succ f =>
          show (if lenN b ≤ lenN y then _ else _) = _
          rw [Hlbe.out, if_neg hl]
      have hli : (lenN y : Int) < (lb : Int) := by omega
      have Hr := Lib.hid hr; clear hr; have Hr2 := Lib.hid hr2; clear hr2
      go_wp2_with fail
      go_ret
      exact ⟨ret_int (by rw [Hr2.out]), rfl⟩
set_option maxHeartbeats 400000 in
theorem l01Field (m : Int) (w : World) :
    Calls Try.prog 56 #[.int .i64 m] w fun e w' => e = .returned (.bool (fieldB m)) ∧ w' = w := by
  cases hin : inB m 256 511 with
  | false =>
    have hr : fieldB m = false := by unfold fieldB; rw [hin]; rfl
    have c := l01In m 256 511
    rw [hin] at c
    have C := Lib.hid c
    clear c hin
    have Hr := Lib.hid hr; clear hr
    go_enter Try.func56, Try.ntmps56
    go_wp2_with (go_at_call 57; refine (C.out _).mono ?_; rintro e wx ⟨rfl, rfl⟩)
    go_ret
    exact ⟨ret_bool Hr.out.symm, rfl⟩
  | true =>
    have c := l01In m 256 511
    rw [hin] at c
    have C := Lib.hid c
    clear c
    obtain ⟨n, rfl, h1, h2⟩ : ∃ n : Nat, m = n ∧ 256 ≤ n ∧ n < 512 := by
      unfold inB at hin
      simp only [Bool.and_eq_true, decide_eq_true_eq] at hin
      exact ⟨m.toNat, by omega, by omega, by omega⟩
    have hn : fieldB n = isFS n := by unfold fieldB; rw [hin, Int.toNat_natCast]; rfl
    clear hin
    have Hn := Lib.hid hn; clear hn
    go_enter Try.func56, Try.ntmps56
    go_wp2_with (go_at_call 57; refine (C.out _).mono ?_; rintro e wx ⟨rfl, rfl⟩)
    go_loop [3] (fun d => ∃ k : Nat, k ≤ 30 ∧ d = .int .i64 ((k : Int) + 2) ∧ ∀ i, i < k → restS n (i + 2) ≠ 0) (fun d => 40 - (intOf d).toNat)
    case atStart => exact ⟨0, by omega, by go_num, fun i hi => absurd hi (Nat.not_lt_zero _)⟩
    case round =>
      obtain ⟨k, hk, rfl, hd⟩ := hrel
      have Hd := Lib.hid hd; clear hd
      by_cases hlt : k < 30
      · have hki : (k : Int) + 2 < 32 := by omega
        have cr := l01Rest n (k + 2) h2 (by omega) (by omega)
        have Cr := Lib.hid cr
        clear cr
        by_cases hz : restS n (k + 2) = 0
        · have hz' : (((restS n (k + 2) : Nat) : Int) == 0) = true := by rw [hz]; rfl
          have hr : fieldB n = false := by rw [Hn.out, isFS_false hlt hz]
          clear hz
          have Hr := Lib.hid hr; clear hr
          go_wp2_with (go_at_call 86; refine (Cr.out _).mono ?_; rintro e wx ⟨rfl, rfl⟩)
          go_ret
          exact ⟨ret_bool Hr.out.symm, rfl⟩
        · have hz' : (((restS n (k + 2) : Nat) : Int) == 0) = false := by simpa using hz
          have Hz := Lib.hid hz; clear hz
          go_wp2_with (go_at_call 86; refine (Cr.out _).mono ?_; rintro e wx ⟨rfl, rfl⟩)
          go_round
          case rel =>
            refine ⟨k + 1, by omega, by go_num, fun i hi => ?_⟩
            by_cases hik : i = k
            · subst hik; exact Hz.out
            · exact Hd.out i (by omega)
          case measure => simp [intOf]; omega
      · obtain rfl : k = 30 := by omega
        have hr : fieldB n = true := by rw [Hn.out, isFS_true Hd.out]
        have Hr := Lib.hid hr; clear hr
        go_wp2
        go_ret
        exact ⟨ret_bool Hr.out.symm, rfl⟩
set_option maxHeartbeats 800000 in
theorem rest (a m d : Nat) (ha : a < 65536) (hm : m < 2 ^ (d + 1)) (hd : 1 ≤ d) (hd8 : d ≤ 8) (w : World) :
    Calls Try.prog 84 #[.int .i64 (a : Int), .int .i64 (m : Int), .int .i64 (d : Int)] w fun e w' => e = .returned (.int .i64 (restI a m d : Int)) ∧ w' = w := by
  have hm9 : m < 512 := Nat.lt_of_lt_of_le hm (show 2 ^ (d + 1) ≤ 2 ^ 9 from Nat.pow_le_pow_right (by omega) (by omega))
  have hpw : ∀ k, d ≤ k → k ≤ 15 → m * 2 ^ (k - d) < 65536 := fun k h1 h2 => by
    have h3 : m * 2 ^ (k - d) < 2 ^ (d + 1) * 2 ^ (k - d) := Nat.mul_lt_mul_of_pos_right hm (Nat.pow_pos (by omega))
    rw [← Nat.pow_add] at h3
    exact Nat.lt_of_lt_of_le h3 (show 2 ^ (d + 1 + (k - d)) ≤ 2 ^ 16 from Nat.pow_le_pow_right (by omega) (by omega))
  have Hpw := Lib.hid hpw; clear hpw; have Hm := Lib.hid hm; clear hm
  go_enter Try.func84, Try.ntmps84
  go_wp2
  go_loop [0, 7] (fun x i => ∃ y k : Nat, k ≤ 16 ∧ y < 65536 ∧ i = .int .i64 ((k : Int) - 1) ∧ x = .int .i64 (y : Int) ∧ RI m d k y = restI a m d ∧ d ≤ k) (fun _ i => (intOf i + 1).toNat)
  case atStart => exact ⟨a, 16, by omega, by omega, rfl, rfl, rfl, by omega⟩
  case round =>
    obtain ⟨y, k, hk, hy, rfl, rfl, hr, hdk⟩ := hrel
    by_cases hlt : d < k
    · have h1 : (d : Int) ≤ (k : Int) - 1 := by omega
      have h2 : (k : Int) - 1 ≤ 15 := by omega
      have hp := Hpw.out (k - 1) (by omega) (by omega)
      have ea := sh_and (k - 1) hy
      have ey := lx_mul hy hp
      have es := sh_mul m (k - 1 - d) hp
      have hr2 : RI m d (k - 1) (rstep m d (k - 1) y) = restI a m d := by
        rw [← hr]
        obtain ⟨j, rfl⟩ : ∃ j, k = j + 1 := ⟨k - 1, by omega⟩
        show _ = if d ≤ j then _ else _
        rw [if_pos (by omega)]
        rfl
      by_cases hb : y / 2 ^ (k - 1) % 2 = 1
      · have e1 : (bits .and .i64 ((y : Int) / 2 ^ (k - 1)) 1 == 1) = true := by rw [ea, hb]; rfl
        have hz : rstep m d (k - 1) y = y ^^^ (m * 2 ^ (k - 1 - d)) := by unfold rstep; rw [if_pos hb]
        have hzl : y ^^^ (m * 2 ^ (k - 1 - d)) < 65536 := Nat.xor_lt_two_pow (n := 16) hy hp
        rw [hz] at hr2
        obtain ⟨z, hze⟩ : ∃ z, y ^^^ (m * 2 ^ (k - 1 - d)) = z := ⟨_, rfl⟩
        rw [hze] at hr2 hzl ey
        clear hze hz hb ea hp hr
        have Hr2 := Lib.hid hr2; clear hr2
        go_wp2
        go_round
        case rel => exact ⟨z, k - 1, by omega, hzl, by go_num, rfl, Hr2.out, by omega⟩
        case measure => simp [intOf]; omega
      · have e1 : (bits .and .i64 ((y : Int) / 2 ^ (k - 1)) 1 == 1) = false := by
          rw [ea, beq_eq_false_iff_ne]
          intro e
          exact hb (by omega)
        have hz : rstep m d (k - 1) y = y := by unfold rstep; rw [if_neg hb]
        rw [hz] at hr2
        clear hz hb ea ey hp hr
        have Hr2 := Lib.hid hr2; clear hr2
        go_wp2
        go_round
        case rel => exact ⟨y, k - 1, by omega, hy, by go_num, rfl, Hr2.out, by omega⟩
        case measure => simp [intOf]; omega
    · have h1 : (k : Int) - 1 < (d : Int) := by omega
      have hr2 : restI a m d = y := by
        rw [← hr]
        obtain ⟨j, rfl⟩ : ∃ j, k = j + 1 := ⟨k - 1, by omega⟩
        show (if d ≤ j then _ else _) = _
        rw [if_neg (by omega)]
      clear hr
      have Hr2 := Lib.hid hr2; clear hr2
      go_wp2
      go_ret
      exact ⟨ret_int (by rw [Hr2.out]), rfl⟩
set_option maxHeartbeats 1600000 in
theorem implIsField (m : Int) (w : World) :
    Calls Try.prog 53 #[.int .i64 m] w fun e w' => e = .returned (.bool (fieldB m)) ∧ w' = w := by
  cases hin : inB m 256 511 with
  | false =>
    have hr : fieldB m = false := by unfold fieldB; rw [hin]; rfl
    have c := inRange m 256 511
    rw [hin] at c
    have C := Lib.hid c
    clear c hin
    have Hr := Lib.hid hr; clear hr
    go_enter Try.func53, Try.ntmps53
    go_wp2_with (go_at_call 54; refine (C.out _).mono ?_; rintro e wx ⟨rfl, rfl⟩)
    go_ret
    exact ⟨ret_bool Hr.out.symm, rfl⟩
  | true =>
    have c := inRange m 256 511
    rw [hin] at c
    have C := Lib.hid c
    clear c
    obtain ⟨n, rfl, h1, h2⟩ : ∃ n : Nat, m = n ∧ 256 ≤ n ∧ n < 512 := by
      unfold inB at hin
      simp only [Bool.and_eq_true, decide_eq_true_eq] at hin
      exact ⟨m.toNat, by omega, by omega, by omega⟩
    have hn : fieldB n = isFS n := by unfold fieldB; rw [hin, Int.toNat_natCast]; rfl
    clear hin
    have Hn := Lib.hid hn; clear hn
    go_enter Try.func53, Try.ntmps53
    go_wp2_with (go_at_call 54; refine (C.out _).mono ?_; rintro e wx ⟨rfl, rfl⟩)
    go_loop [3] (fun d => ∃ e : Nat, e ≤ 4 ∧ d = .int .i64 ((e : Int) + 1) ∧ ∀ e', e' < e → rowOK n e' = true) (fun d => 10 - (intOf d).toNat)
    case atStart => exact ⟨0, by omega, by go_num, fun i hi => absurd hi (Nat.not_lt_zero _)⟩
    case round =>
      obtain ⟨e, he4, rfl, he⟩ := hrel
      have He := Lib.hid he; clear he
      have hce : e = 0 ∨ e = 1 ∨ e = 2 ∨ e = 3 ∨ e = 4 := by omega
      rcases hce with rfl | rfl | rfl | rfl | rfl
      · -- degree 1
        go_wp2_with fail
        go_loop [4] (fun d => ∃ i : Nat, i ≤ 2 ∧ d = .int .i64 (2 + (i : Int)) ∧ ∀ i', i' < i → restI n (2 + i') 1 ≠ 0) (fun d => 4 - (intOf d).toNat)
        case atStart => exact ⟨0, by omega, by go_num, fun i' hi' => absurd hi' (Nat.not_lt_zero _)⟩
        case round =>
          obtain ⟨i, hi, rfl, hd⟩ := hrel
          have Hd := Lib.hid hd; clear hd
          by_cases hil : i < 2
          · have hii : (i : Int) < 2 := by omega
            have cr := rest n (2 + i) 1 (by omega) (by omega) (by omega) (by omega)
            have Cr := Lib.hid cr
            clear cr
            by_cases hz : restI n (2 + i) 1 = 0
            · have hz' : (((restI n (2 + i) 1 : Nat) : Int) == 0) = true := by rw [hz]; rfl
              have hr : fieldB n = false := by rw [Hn.out, isF_eq n h2, isFI_false (e := 0) (by omega) (rowOK_false (i := i) (by omega) hz)]
              clear hz
              have Hr := Lib.hid hr; clear hr
              go_wp2_with (go_at_call 84; refine (Cr.out _).mono ?_; rintro e wx ⟨rfl, rfl⟩)
              go_ret
              exact ⟨ret_bool Hr.out.symm, rfl⟩
            · have hz' : (((restI n (2 + i) 1 : Nat) : Int) == 0) = false := by simpa using hz
              have Hz := Lib.hid hz; clear hz
              go_wp2_with (go_at_call 84; refine (Cr.out _).mono ?_; rintro e wx ⟨rfl, rfl⟩)
              go_round
              case rel =>
                refine ⟨i + 1, by omega, by go_num, fun i' hi' => ?_⟩
                by_cases hii' : i' = i
                · subst hii'; exact Hz.out
                · exact Hd.out i' (by omega)
              case measure => simp [intOf]; omega
          · obtain rfl : i = 2 := by omega
            go_wp2
            go_round
            case rel =>
              refine ⟨1, by omega, by go_num, fun e' he' => ?_⟩
              by_cases hee : e' = 0
              · subst hee; exact rowOK_true fun i' hi' => Hd.out i' hi'
              · exact He.out e' (by omega)
            case measure => simp [intOf]
      · -- degree 2
        go_wp2_with fail
        go_loop [4] (fun d => ∃ i : Nat, i ≤ 4 ∧ d = .int .i64 (4 + (i : Int)) ∧ ∀ i', i' < i → restI n (4 + i') 2 ≠ 0) (fun d => 8 - (intOf d).toNat)
        case atStart => exact ⟨0, by omega, by go_num, fun i' hi' => absurd hi' (Nat.not_lt_zero _)⟩
        case round =>
          obtain ⟨i, hi, rfl, hd⟩ := hrel
          have Hd := Lib.hid hd; clear hd
          by_cases hil : i < 4
          · have hii : (i : Int) < 4 := by omega
            have cr := rest n (4 + i) 2 (by omega) (by omega) (by omega) (by omega)
            have Cr := Lib.hid cr
            clear cr
            by_cases hz : restI n (4 + i) 2 = 0
            · have hz' : (((restI n (4 + i) 2 : Nat) : Int) == 0) = true := by rw [hz]; rfl
              have hr : fieldB n = false := by rw [Hn.out, isF_eq n h2, isFI_false (e := 1) (by omega) (rowOK_false (i := i) (by omega) hz)]
              clear hz
              have Hr := Lib.hid hr; clear hr
              go_wp2_with (go_at_call 84; refine (Cr.out _).mono ?_; rintro e wx ⟨rfl, rfl⟩)
              go_ret
              exact ⟨ret_bool Hr.out.symm, rfl⟩
            · have hz' : (((restI n (4 + i) 2 : Nat) : Int) == 0) = false := by simpa using hz
              have Hz := Lib.hid hz; clear hz
              go_wp2_with (go_at_call 84; refine (Cr.out _).mono ?_; rintro e wx ⟨rfl, rfl⟩)
              go_round
              case rel =>
                refine ⟨i + 1, by omega, by go_num, fun i' hi' => ?_⟩
                by_cases hii' : i' = i
                · subst hii'; exact Hz.out
                · exact Hd.out i' (by omega)
              case measure => simp [intOf]; omega
          · obtain rfl : i = 4 := by omega
            go_wp2
            go_round
            case rel =>
              refine ⟨2, by omega, by go_num, fun e' he' => ?_⟩
              by_cases hee : e' = 1
              · subst hee; exact rowOK_true fun i' hi' => Hd.out i' hi'
              · exact He.out e' (by omega)
            case measure => simp [intOf]
      · -- degree 3
        go_wp2_with fail
        go_loop [4] (fun d => ∃ i : Nat, i ≤ 8 ∧ d = .int .i64 (8 + (i : Int)) ∧ ∀ i', i' < i → restI n (8 + i') 3 ≠ 0) (fun d => 16 - (intOf d).toNat)
        case atStart => exact ⟨0, by omega, by go_num, fun i' hi' => absurd hi' (Nat.not_lt_zero _)⟩
        case round =>
          obtain ⟨i, hi, rfl, hd⟩ := hrel
          have Hd := Lib.hid hd; clear hd
          by_cases hil : i < 8
          · have hii : (i : Int) < 8 := by omega
            have cr := rest n (8 + i) 3 (by omega) (by omega) (by omega) (by omega)
            have Cr := Lib.hid cr
            clear cr
            by_cases hz : restI n (8 + i) 3 = 0
            · have hz' : (((restI n (8 + i) 3 : Nat) : Int) == 0) = true := by rw [hz]; rfl
              have hr : fieldB n = false := by rw [Hn.out, isF_eq n h2, isFI_false (e := 2) (by omega) (rowOK_false (i := i) (by omega) hz)]
              clear hz
              have Hr := Lib.hid hr; clear hr
              go_wp2_with (go_at_call 84; refine (Cr.out _).mono ?_; rintro e wx ⟨rfl, rfl⟩)
              go_ret
              exact ⟨ret_bool Hr.out.symm, rfl⟩
            · have hz' : (((restI n (8 + i) 3 : Nat) : Int) == 0) = false := by simpa using hz
              have Hz := Lib.hid hz; clear hz
              go_wp2_with (go_at_call 84; refine (Cr.out _).mono ?_; rintro e wx ⟨rfl, rfl⟩)
              go_round
              case rel =>
                refine ⟨i + 1, by omega, by go_num, fun i' hi' => ?_⟩
                by_cases hii' : i' = i
                · subst hii'; exact Hz.out
                · exact Hd.out i' (by omega)
              case measure => simp [intOf]; omega
          · obtain rfl : i = 8 := by omega
            go_wp2
            go_round
            case rel =>
              refine ⟨3, by omega, by go_num, fun e' he' => ?_⟩
              by_cases hee : e' = 2
              · subst hee; exact rowOK_true fun i' hi' => Hd.out i' hi'
              · exact He.out e' (by omega)
            case measure => simp [intOf]
      · -- degree 4
        go_wp2_with fail
        go_loop [4] (fun d => ∃ i : Nat, i ≤ 16 ∧ d = .int .i64 (16 + (i : Int)) ∧ ∀ i', i' < i → restI n (16 + i') 4 ≠ 0) (fun d => 32 - (intOf d).toNat)
        case atStart => exact ⟨0, by omega, by go_num, fun i' hi' => absurd hi' (Nat.not_lt_zero _)⟩
        case round =>
          obtain ⟨i, hi, rfl, hd⟩ := hrel
          have Hd := Lib.hid hd; clear hd
          by_cases hil : i < 16
          · have hii : (i : Int) < 16 := by omega
            have cr := rest n (16 + i) 4 (by omega) (by omega) (by omega) (by omega)
            have Cr := Lib.hid cr
            clear cr
            by_cases hz : restI n (16 + i) 4 = 0
            · have hz' : (((restI n (16 + i) 4 : Nat) : Int) == 0) = true := by rw [hz]; rfl
              have hr : fieldB n = false := by rw [Hn.out, isF_eq n h2, isFI_false (e := 3) (by omega) (rowOK_false (i := i) (by omega) hz)]
              clear hz
              have Hr := Lib.hid hr; clear hr
              go_wp2_with (go_at_call 84; refine (Cr.out _).mono ?_; rintro e wx ⟨rfl, rfl⟩)
              go_ret
              exact ⟨ret_bool Hr.out.symm, rfl⟩
            · have hz' : (((restI n (16 + i) 4 : Nat) : Int) == 0) = false := by simpa using hz
              have Hz := Lib.hid hz; clear hz
              go_wp2_with (go_at_call 84; refine (Cr.out _).mono ?_; rintro e wx ⟨rfl, rfl⟩)
              go_round
              case rel =>
                refine ⟨i + 1, by omega, by go_num, fun i' hi' => ?_⟩
                by_cases hii' : i' = i
                · subst hii'; exact Hz.out
                · exact Hd.out i' (by omega)
              case measure => simp [intOf]; omega
          · obtain rfl : i = 16 := by omega
            go_wp2
            go_round
            case rel =>
              refine ⟨4, by omega, by go_num, fun e' he' => ?_⟩
              by_cases hee : e' = 3
              · subst hee; exact rowOK_true fun i' hi' => Hd.out i' hi'
              · exact He.out e' (by omega)
            case measure => simp [intOf]
      · have hr : fieldB n = true := by rw [Hn.out, isF_eq n h2, isFI_true He.out]
        have Hr := Lib.hid hr; clear hr
        go_wp2
        go_ret
        exact ⟨ret_bool Hr.out.symm, rfl⟩
end Go.Proofs.Ytphfiekhpicpgaa
