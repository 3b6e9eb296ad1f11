/- Contracts: powers, traces and the pair-valued functions of the field layer, by the program and by the reference. No condition. -/
import Derived.Test.YtcfmaicmlcmleaaRows
import Derived.Test.YtcfmaicmlcmleaaTimes
namespace Go.Proofs.Ytcfmaicmlcmleaa
open Go.RowKit Plain
namespace Plain
def PW (m : Nat) : Nat → Nat → Nat → Nat → Nat
  | 0, o, _, _ => o
  | f + 1, o, a, k => if k = 0 then o else PW m f (if k % 2 = 1 then timesI m o a else o) (timesI m a a) (k / 2)
def powN (m a k : Nat) : Nat := PW m 32 1 a k
theorem PW_zero (m : Nat) : ∀ f o a, PW m f o a 0 = o
  | 0, _, _ => rfl
  | _ + 1, _, _ => by unfold PW; rw [if_pos rfl]
theorem PW_lt {m : Nat} (h1 : 256 ≤ m) (h2 : m < 512) : ∀ f o a k, o < 256 → a < 256 → PW m f o a k < 256
  | 0, _, _, _, ho, _ => ho
  | f + 1, o, a, k, ho, ha => by
    unfold PW
    split
    · exact ho
    · refine PW_lt h1 h2 f _ _ _ ?_ (timesI_lt h1 h2 ha)
      split
      · exact timesI_lt h1 h2 ho
      · exact ho
theorem powN_lt {m a k : Nat} (h1 : 256 ≤ m) (h2 : m < 512) (ha : a < 256) : powN m a k < 256 := PW_lt h1 h2 _ _ _ _ (by omega) ha
def trA (m a : Nat) : Nat → Nat
  | 0 => a
  | k + 1 => timesI m (trA m a k) (trA m a k)
def trS (m a : Nat) : Nat → Nat
  | 0 => 0
  | k + 1 => trS m a k ^^^ trA m a k
theorem trA_lt {m a : Nat} (h1 : 256 ≤ m) (h2 : m < 512) (ha : a < 256) : ∀ k, trA m a k < 256
  | 0 => ha
  | k + 1 => timesI_lt h1 h2 (trA_lt h1 h2 ha k)
theorem trS_lt {m a : Nat} (h1 : 256 ≤ m) (h2 : m < 512) (ha : a < 256) : ∀ k, trS m a k < 256
  | 0 => by show (0 : Nat) < 256; omega
  | k + 1 => Nat.xor_lt_two_pow (n := 8) (trS_lt h1 h2 ha k) (trA_lt h1 h2 ha k)
def lpw (m g : Nat) : Nat → Nat
  | 0 => 1
  | k + 1 => timesI m (lpw m g k) g
theorem lpw_lt {m g : Nat} (h1 : 256 ≤ m) (h2 : m < 512) : ∀ k, lpw m g k < 256
  | 0 => by show (1 : Nat) < 256; omega
  | k + 1 => timesI_lt h1 h2 (lpw_lt h1 h2 k)
/-- The least number below n that p holds of. -/
def leastB (p : Nat → Bool) (n : Nat) : Option Nat := (List.range n).find? p
theorem leastB_some {p : Nat → Bool} : ∀ {n k : Nat}, k < n → p k = true → (∀ i, i < k → p i = false) → leastB p n = some k
  | 0, k, hk, _, _ => absurd hk (Nat.not_lt_zero k)
  | n + 1, k, hk, hp, hi => by
    unfold leastB
    rw [List.range_succ, List.find?_append]
    by_cases h : k < n
    · have := leastB_some h hp hi
      unfold leastB at this
      rw [this]
      rfl
    · obtain rfl : k = n := by omega
      have h0 : (List.range k).find? p = none := List.find?_eq_none.2 fun x hx => by
        rw [hi x (List.mem_range.1 hx)]
        simp
      rw [h0]
      simp [hp]
theorem leastB_none {p : Nat → Bool} {n : Nat} (hi : ∀ i, i < n → p i = false) : leastB p n = none :=
  List.find?_eq_none.2 fun x hx => by
    rw [hi x (List.mem_range.1 hx)]
    simp
def orCode (c : Int) : Option Nat → Int × Int
  | some x => (x, 0)
  | none => (0, c)
end Plain
def timesV (m : Int) (a b : Nat) : Int × Int := if fieldB m then (timesI m.toNat a b, 0) else (0, 1)
def powerV (m : Int) (a : Nat) (k : Int) : Int × Int := if fieldB m then (if inB k 0 1000000000 then (powN m.toNat a k.toNat, 0) else (0, 2)) else (0, 1)
def inverseV (m : Int) (a : Nat) : Int × Int := if fieldB m then (if a = 0 then (0, 5) else (powN m.toNat a 254, 0)) else (0, 1)
def rootV (m : Int) (a : Nat) : Int × Int := if fieldB m then (powN m.toNat a 128, 0) else (0, 1)
def traceV (m : Int) (a : Nat) : Int × Int := if fieldB m then (trS m.toNat a 8, 0) else (0, 1)
def quadraticV (m : Int) (a : Nat) : Int × Int := if fieldB m then orCode 4 (leastB (fun x => timesI m.toNat x x ^^^ x == a) 256) else (0, 1)
def logarithmV (m : Int) (g a : Nat) : Int × Int := if fieldB m then orCode 4 (leastB (fun k => lpw m.toNat g k == a) 256) else (0, 1)
theorem ret_pairV {k : IntKind} {v : Int × Int} {x c : Int} (h : v = (x, c)) : Ending.returned (.tuple #[.int k x, .int .i64 c]) = .returned (.tuple #[.int k v.1, .int .i64 v.2]) := by rw [h]
theorem inB_nat {k : Int} (h : inB k 0 1000000000 = true) : ∃ n : Nat, k = n ∧ n ≤ 1000000000 := by
  unfold inB at h
  simp only [Bool.and_eq_true, decide_eq_true_eq] at h
  exact ⟨k.toNat, by omega, by omega⟩

set_option maxRecDepth 100000 in
set_option maxHeartbeats 400000 in
theorem l01Power (m a k : Nat) (h1 : 256 ≤ m) (h2 : m < 512) (ha : a < 256) (hk : k < 2 ^ 32) (w : World) :
    Calls Try.prog 49 #[.int .i64 (m : Int), .int .u8 (a : Int), .int .i64 (k : Int)] w fun e w' => e = .returned (.int .u8 (powN m a k : Int)) ∧ w' = w := by
  go_enter Try.func49, Try.ntmps49
  go_wp2
  go_loop [7, 1, 2] (fun x y z => ∃ o n r f : Nat, o < 256 ∧ n < 256 ∧ r < 2 ^ f ∧ f ≤ 32 ∧ x = .int .u8 o ∧ y = .int .u8 n ∧ z = .int .i64 r ∧ PW m f o n r = powN m a k) (fun _ _ z => (intOf z).toNat)
  case atStart => exact ⟨1, a, k, 32, by omega, ha, hk, by omega, rfl, rfl, rfl, rfl⟩
  case round =>
    obtain ⟨o, n, r, f, ho, hn, hr, hf, rfl, rfl, rfl, he⟩ := hrel
    by_cases h0 : r = 0
    · subst h0
      have he2 : powN m a k = o := by rw [← he, PW_zero]
      clear he hk
      have He2 := Lib.hid he2; clear he2
      go_wp2
      go_ret
      exact ⟨ret_int (by rw [He2.out]), rfl⟩
    · have hr0 : (0 : Int) < r := by omega
      obtain ⟨g, rfl⟩ : ∃ g, f = g + 1 := ⟨f - 1, by
        have : f ≠ 0 := fun e => by subst e; omega
        omega⟩
      have hr2 : r / 2 < 2 ^ g := by rw [Nat.pow_succ] at hr; omega
      have hr256 : r < 4294967296 := Nat.lt_of_lt_of_le hr (show 2 ^ (g + 1) ≤ 2 ^ 32 from Nat.pow_le_pow_right (by omega) hf)
      have he2 : PW m g (if r % 2 = 1 then timesI m o n else o) (timesI m n n) (r / 2) = powN m a k := by
        rw [← he]
        show _ = if r = 0 then _ else _
        rw [if_neg h0]
      have hnn := timesI_lt (m := m) (a := n) (b := n) h1 h2 hn
      have hon := timesI_lt (m := m) (a := o) (b := n) h1 h2 ho
      have c1 := l01Times m n n h1 h2 hn hn
      have c2 := l01Times m o n h1 h2 ho hn
      have C1 := Lib.hid c1
      have C2 := Lib.hid c2
      clear he hr c1 c2 hk
      by_cases hp : r % 2 = 1
      · have e1 : ((r : Int) % 2 == 1) = true := by rw [beq_iff_eq]; omega
        rw [if_pos hp] at he2
        have He2 := Lib.hid he2; clear he2; have Hr2 := Lib.hid hr2; clear hr2
        go_wp2_with fail
        refine (C2.out _).mono ?_
        rintro e wx ⟨rfl, rfl⟩
        go_wp2_with fail
        refine (C1.out _).mono ?_
        rintro e wx ⟨rfl, rfl⟩
        go_wp2_with fail
        go_round
        case rel => exact ⟨timesI m o n, timesI m n n, r / 2, g, hon, hnn, Hr2.out, by omega, rfl, rfl, by go_num, He2.out⟩
        case measure => simp [intOf]; omega
      · have e1 : ((r : Int) % 2 == 1) = false := by rw [beq_eq_false_iff_ne]; omega
        rw [if_neg hp] at he2
        have He2 := Lib.hid he2; clear he2; have Hr2 := Lib.hid hr2; clear hr2
        go_wp2_with fail
        refine (C1.out _).mono ?_
        rintro e wx ⟨rfl, rfl⟩
        go_wp2_with fail
        go_round
        case rel => exact ⟨o, timesI m n n, r / 2, g, ho, hnn, Hr2.out, by omega, rfl, rfl, by go_num, He2.out⟩
        case measure => simp [intOf]; omega
set_option maxRecDepth 100000 in
set_option maxHeartbeats 400000 in
theorem fPower (m a k : Nat) (h1 : 256 ≤ m) (h2 : m < 512) (ha : a < 256) (hk : k < 2 ^ 32) (w : World) :
    Calls Try.prog 50 #[.int .i64 (m : Int), .int .u8 (a : Int), .int .i64 (k : Int)] w fun e w' => e = .returned (.int .u8 (powN m a k : Int)) ∧ w' = w := by
  go_enter Try.func50, Try.ntmps50
  go_wp2
  go_loop [7, 1, 2] (fun x y z => ∃ o n r f : Nat, o < 256 ∧ n < 256 ∧ r < 2 ^ f ∧ f ≤ 32 ∧ x = .int .u8 o ∧ y = .int .u8 n ∧ z = .int .i64 r ∧ PW m f o n r = powN m a k) (fun _ _ z => (intOf z).toNat)
  case atStart => exact ⟨1, a, k, 32, by omega, ha, hk, by omega, rfl, rfl, rfl, rfl⟩
  case round =>
    obtain ⟨o, n, r, f, ho, hn, hr, hf, rfl, rfl, rfl, he⟩ := hrel
    by_cases h0 : r = 0
    · subst h0
      have he2 : powN m a k = o := by rw [← he, PW_zero]
      clear he hk
      have He2 := Lib.hid he2; clear he2
      go_wp2
      go_ret
      exact ⟨ret_int (by rw [He2.out]), rfl⟩
    · have hr0 : (0 : Int) < r := by omega
      obtain ⟨g, rfl⟩ : ∃ g, f = g + 1 := ⟨f - 1, by
        have : f ≠ 0 := fun e => by subst e; omega
        omega⟩
      have hr2 : r / 2 < 2 ^ g := by rw [Nat.pow_succ] at hr; omega
      have hr256 : r < 4294967296 := Nat.lt_of_lt_of_le hr (show 2 ^ (g + 1) ≤ 2 ^ 32 from Nat.pow_le_pow_right (by omega) hf)
      have he2 : PW m g (if r % 2 = 1 then timesI m o n else o) (timesI m n n) (r / 2) = powN m a k := by
        rw [← he]
        show _ = if r = 0 then _ else _
        rw [if_neg h0]
      have hnn := timesI_lt (m := m) (a := n) (b := n) h1 h2 hn
      have hon := timesI_lt (m := m) (a := o) (b := n) h1 h2 ho
      have c1 := fTimes m n n h1 h2 hn hn
      have c2 := fTimes m o n h1 h2 ho hn
      have C1 := Lib.hid c1
      have C2 := Lib.hid c2
      clear he hr c1 c2 hk
      by_cases hp : r % 2 = 1
      · have e1 : ((r : Int) % 2 == 1) = true := by rw [beq_iff_eq]; omega
        rw [if_pos hp] at he2
        have He2 := Lib.hid he2; clear he2; have Hr2 := Lib.hid hr2; clear hr2
        go_wp2_with fail
        refine (C2.out _).mono ?_
        rintro e wx ⟨rfl, rfl⟩
        go_wp2_with fail
        refine (C1.out _).mono ?_
        rintro e wx ⟨rfl, rfl⟩
        go_wp2_with fail
        go_round
        case rel => exact ⟨timesI m o n, timesI m n n, r / 2, g, hon, hnn, Hr2.out, by omega, rfl, rfl, by go_num, He2.out⟩
        case measure => simp [intOf]; omega
      · have e1 : ((r : Int) % 2 == 1) = false := by rw [beq_eq_false_iff_ne]; omega
        rw [if_neg hp] at he2
        have He2 := Lib.hid he2; clear he2; have Hr2 := Lib.hid hr2; clear hr2
        go_wp2_with fail
        refine (C1.out _).mono ?_
        rintro e wx ⟨rfl, rfl⟩
        go_wp2_with fail
        go_round
        case rel => exact ⟨o, timesI m n n, r / 2, g, ho, hnn, Hr2.out, by omega, rfl, rfl, by go_num, He2.out⟩
        case measure => simp [intOf]; omega
set_option maxHeartbeats 400000 in
theorem l01Inv (m a : Nat) (h1 : 256 ≤ m) (h2 : m < 512) (ha : a < 256) (w : World) :
    Calls Try.prog 51 #[.int .i64 (m : Int), .int .u8 (a : Int)] w fun e w' => e = .returned (.int .u8 (powN m a 254 : Int)) ∧ w' = w := by
  have c := l01Power m a 254 h1 h2 ha (by omega)
  have C := Lib.hid c
  clear c
  have hl := powN_lt (k := 254) h1 h2 ha
  go_enter Try.func51, Try.ntmps51
  go_wp2_with (go_at_call 49; refine (C.out _).mono ?_; rintro e wx ⟨rfl, rfl⟩)
  go_ret
  exact ⟨rfl, rfl⟩
set_option maxHeartbeats 400000 in
theorem fInverse (m a : Nat) (h1 : 256 ≤ m) (h2 : m < 512) (ha : a < 256) (w : World) :
    Calls Try.prog 52 #[.int .i64 (m : Int), .int .u8 (a : Int)] w fun e w' => e = .returned (.int .u8 (powN m a 254 : Int)) ∧ w' = w := by
  have c := fPower m a 254 h1 h2 ha (by omega)
  have C := Lib.hid c
  clear c
  have hl := powN_lt (k := 254) h1 h2 ha
  go_enter Try.func52, Try.ntmps52
  go_wp2_with (go_at_call 50; refine (C.out _).mono ?_; rintro e wx ⟨rfl, rfl⟩)
  go_ret
  exact ⟨rfl, rfl⟩
set_option maxHeartbeats 400000 in
theorem l01Trace (n a : Nat) (h1 : 256 ≤ n) (h2 : n < 512) (ha : a < 256) (w : World) :
    Calls Try.prog 53 #[.int .i64 (n : Int), .int .u8 (a : Int)] w fun e w' => e = .returned (.int .u8 (trS n a 8 : Int)) ∧ w' = w := by
  have hsl := trS_lt h1 h2 ha
  have hal := trA_lt h1 h2 ha
  have Hsl := Lib.hid hsl; clear hsl; have Hal := Lib.hid hal; clear hal
  go_enter Try.func53, Try.ntmps53
  go_wp2
  go_loop [5, 1, 6] (fun x y z => ∃ k : Nat, k ≤ 8 ∧ x = .int .u8 (trS n a k : Int) ∧ y = .int .u8 (trA n a k : Int) ∧ z = .int .i64 k) (fun _ _ z => 8 - (intOf z).toNat)
  case atStart => exact ⟨0, by omega, rfl, rfl, rfl⟩
  case round =>
    obtain ⟨k, hk, rfl, rfl, rfl⟩ := hrel
    by_cases hlt : k < 8
    · have hki : (k : Int) < 8 := by omega
      have hs := Hsl.out k
      have ha2 := Hal.out k
      have ex := u8_xor_nat (trS n a k) (trA n a k) hs ha2
      have c := l01Times n (trA n a k) (trA n a k) h1 h2 ha2 ha2
      have D := Lib.hid c
      clear c
      go_wp2_with fail
      refine (D.out _).mono ?_
      rintro e wx ⟨rfl, rfl⟩
      go_wp2_with fail
      go_round
      case rel => exact ⟨k + 1, by omega, rfl, rfl, by go_num⟩
      case measure => simp [intOf]; omega
    · obtain rfl : k = 8 := by omega
      have hs := Hsl.out 8
      go_wp2
      go_ret
      exact ⟨rfl, rfl⟩
set_option maxRecDepth 100000 in
set_option maxHeartbeats 800000 in
theorem specTimesIn (m : Int) (a b : Nat) (ha : a < 256) (hb : b < 256) (w : World) :
    Calls Try.prog 17 #[.int .i64 m, .int .u8 (a : Int), .int .u8 (b : Int)] w fun e w' => e = .returned (.tuple #[.int .u8 (timesV m a b).1, .int .i64 (timesV m a b).2]) ∧ w' = w := by
  cases hf : fieldB m with
  | false =>
    have hv : timesV m a b = (0, 1) := by unfold timesV; rw [hf]; rfl
    have c := l01Field m
    rw [hf] at c
    have C := Lib.hid c
    clear c hf
    have Hv := Lib.hid hv; clear hv
    go_enter Try.func17, Try.ntmps17
    go_wp2_with (go_at_call 43; refine (C.out _).mono ?_; rintro e wx ⟨rfl, rfl⟩)
    go_ret2
    exact ⟨ret_pairV Hv.out, rfl⟩
  | true =>
    have c := l01Field m
    rw [hf] at c
    have C := Lib.hid c
    clear c
    obtain ⟨n, rfl, h1, h2, hF⟩ := fieldB_nat hf
    clear hF
    have hv : timesV n a b = (((timesI n a b : Nat) : Int), 0) := by unfold timesV; rw [hf]; rfl
    have D := Lib.hid (l01Times n a b h1 h2 ha hb)
    have hl := timesI_lt (m := n) (b := b) h1 h2 ha
    clear hf
    have Hv := Lib.hid hv; clear hv
    go_enter Try.func17, Try.ntmps17
    go_wp2_with (first | (go_at_call 43; refine (C.out _).mono ?_; rintro e wx ⟨rfl, rfl⟩) | (go_at_call 46; refine (D.out _).mono ?_; rintro e wx ⟨rfl, rfl⟩))
    go_ret2
    exact ⟨ret_pairV Hv.out, rfl⟩
set_option maxRecDepth 100000 in
set_option maxHeartbeats 800000 in
theorem specRootIn (m : Int) (a : Nat) (ha : a < 256) (w : World) :
    Calls Try.prog 25 #[.int .i64 m, .int .u8 (a : Int)] w fun e w' => e = .returned (.tuple #[.int .u8 (rootV m a).1, .int .i64 (rootV m a).2]) ∧ w' = w := by
  cases hf : fieldB m with
  | false =>
    have hv : rootV m a = (0, 1) := by unfold rootV; rw [hf]; rfl
    have c := l01Field m
    rw [hf] at c
    have C := Lib.hid c
    clear c hf
    have Hv := Lib.hid hv; clear hv
    go_enter Try.func25, Try.ntmps25
    go_wp2_with (go_at_call 43; refine (C.out _).mono ?_; rintro e wx ⟨rfl, rfl⟩)
    go_ret2
    exact ⟨ret_pairV Hv.out, rfl⟩
  | true =>
    have c := l01Field m
    rw [hf] at c
    have C := Lib.hid c
    clear c
    obtain ⟨n, rfl, h1, h2, hF⟩ := fieldB_nat hf
    clear hF
    have hv : rootV n a = (((powN n a 128 : Nat) : Int), 0) := by unfold rootV; rw [hf]; rfl
    have D := Lib.hid (l01Power n a 128 h1 h2 ha (by omega))
    have hl := powN_lt (k := 128) h1 h2 ha
    clear hf
    have Hv := Lib.hid hv; clear hv
    go_enter Try.func25, Try.ntmps25
    go_wp2_with (first | (go_at_call 43; refine (C.out _).mono ?_; rintro e wx ⟨rfl, rfl⟩) | (go_at_call 49; refine (D.out _).mono ?_; rintro e wx ⟨rfl, rfl⟩))
    go_ret2
    exact ⟨ret_pairV Hv.out, rfl⟩
set_option maxRecDepth 100000 in
set_option maxHeartbeats 800000 in
theorem specInverseIn (m : Int) (a : Nat) (ha : a < 256) (w : World) :
    Calls Try.prog 21 #[.int .i64 m, .int .u8 (a : Int)] w fun e w' => e = .returned (.tuple #[.int .u8 (inverseV m a).1, .int .i64 (inverseV m a).2]) ∧ w' = w := by
  cases hf : fieldB m with
  | false =>
    have hv : inverseV m a = (0, 1) := by unfold inverseV; rw [hf]; rfl
    have c := l01Field m
    rw [hf] at c
    have C := Lib.hid c
    clear c hf
    have Hv := Lib.hid hv; clear hv
    go_enter Try.func21, Try.ntmps21
    go_wp2_with (go_at_call 43; refine (C.out _).mono ?_; rintro e wx ⟨rfl, rfl⟩)
    go_ret2
    exact ⟨ret_pairV Hv.out, rfl⟩
  | true =>
    have c := l01Field m
    rw [hf] at c
    have C := Lib.hid c
    clear c
    obtain ⟨n, rfl, h1, h2, hF⟩ := fieldB_nat hf
    clear hF
    by_cases h0 : a = 0
    · subst h0
      have hv : inverseV n 0 = (0, 5) := by unfold inverseV; rw [hf]; rfl
      clear hf
      have Hv := Lib.hid hv; clear hv
      go_enter Try.func21, Try.ntmps21
      go_wp2_with (go_at_call 43; refine (C.out _).mono ?_; rintro e wx ⟨rfl, rfl⟩)
      go_ret2
      exact ⟨ret_pairV Hv.out, rfl⟩
    · have hv : inverseV n a = (((powN n a 254 : Nat) : Int), 0) := by unfold inverseV; rw [hf, if_pos rfl, if_neg h0]; rfl
      have D := Lib.hid (l01Inv n a h1 h2 ha)
      have hl := powN_lt (k := 254) h1 h2 ha
      have e0 : ((a : Int) == 0) = false := by rw [beq_eq_false_iff_ne]; omega
      clear hf
      have Hv := Lib.hid hv; clear hv
      go_enter Try.func21, Try.ntmps21
      go_wp2_with (first | (go_at_call 43; refine (C.out _).mono ?_; rintro e wx ⟨rfl, rfl⟩) | (go_at_call 51; refine (D.out _).mono ?_; rintro e wx ⟨rfl, rfl⟩))
      go_ret2
      exact ⟨ret_pairV Hv.out, rfl⟩
set_option maxRecDepth 100000 in
set_option maxHeartbeats 800000 in
theorem specPowerIn (m : Int) (a : Nat) (k : Int) (ha : a < 256) (w : World) :
    Calls Try.prog 19 #[.int .i64 m, .int .u8 (a : Int), .int .i64 k] w fun e w' => e = .returned (.tuple #[.int .u8 (powerV m a k).1, .int .i64 (powerV m a k).2]) ∧ w' = w := by
  cases hf : fieldB m with
  | false =>
    have hv : powerV m a k = (0, 1) := by unfold powerV; rw [hf]; rfl
    have c := l01Field m
    rw [hf] at c
    have C := Lib.hid c
    clear c hf
    have Hv := Lib.hid hv; clear hv
    go_enter Try.func19, Try.ntmps19
    go_wp2_with (go_at_call 43; refine (C.out _).mono ?_; rintro e wx ⟨rfl, rfl⟩)
    go_ret2
    exact ⟨ret_pairV Hv.out, rfl⟩
  | true =>
    have c := l01Field m
    rw [hf] at c
    have C := Lib.hid c
    clear c
    obtain ⟨n, rfl, h1, h2, hF⟩ := fieldB_nat hf
    clear hF
    cases hi : inB k 0 1000000000 with
    | false =>
      have hv : powerV n a k = (0, 2) := by unfold powerV; rw [hf, hi]; rfl
      have d := l01In k 0 1000000000
      rw [hi] at d
      have D := Lib.hid d
      clear hf d hi
      have Hv := Lib.hid hv; clear hv
      go_enter Try.func19, Try.ntmps19
      go_wp2_with (first | (go_at_call 43; refine (C.out _).mono ?_; rintro e wx ⟨rfl, rfl⟩) | (go_at_call 48; refine (D.out _).mono ?_; rintro e wx ⟨rfl, rfl⟩))
      go_ret2
      exact ⟨ret_pairV Hv.out, rfl⟩
    | true =>
      have d := l01In k 0 1000000000
      rw [hi] at d
      have D := Lib.hid d
      clear d
      obtain ⟨q, rfl, hq⟩ := inB_nat hi
      have hv : powerV n a q = (((powN n a q : Nat) : Int), 0) := by unfold powerV; rw [hf, hi]; rfl
      have E := Lib.hid (l01Power n a q h1 h2 ha (by omega))
      have hl := powN_lt (k := q) h1 h2 ha
      clear hf hi
      have Hv := Lib.hid hv; clear hv
      go_enter Try.func19, Try.ntmps19
      go_wp2_with (first | (go_at_call 43; refine (C.out _).mono ?_; rintro e wx ⟨rfl, rfl⟩) | (go_at_call 48; refine (D.out _).mono ?_; rintro e wx ⟨rfl, rfl⟩) | (go_at_call 49; refine (E.out _).mono ?_; rintro e wx ⟨rfl, rfl⟩))
      go_ret2
      exact ⟨ret_pairV Hv.out, rfl⟩
set_option maxRecDepth 100000 in
set_option maxHeartbeats 800000 in
theorem specTraceIn (m : Int) (a : Nat) (ha : a < 256) (w : World) :
    Calls Try.prog 23 #[.int .i64 m, .int .u8 (a : Int)] w fun e w' => e = .returned (.tuple #[.int .u8 (traceV m a).1, .int .i64 (traceV m a).2]) ∧ w' = w := by
  cases hf : fieldB m with
  | false =>
    have hv : traceV m a = (0, 1) := by unfold traceV; rw [hf]; rfl
    have c := l01Field m
    rw [hf] at c
    have C := Lib.hid c
    clear c hf
    have Hv := Lib.hid hv; clear hv
    go_enter Try.func23, Try.ntmps23
    go_wp2_with (go_at_call 43; refine (C.out _).mono ?_; rintro e wx ⟨rfl, rfl⟩)
    go_ret2
    exact ⟨ret_pairV Hv.out, rfl⟩
  | true =>
    have c := l01Field m
    rw [hf] at c
    have C := Lib.hid c
    clear c
    obtain ⟨n, rfl, h1, h2, hF⟩ := fieldB_nat hf
    clear hF
    have hv : traceV n a = (((trS n a 8 : Nat) : Int), 0) := by unfold traceV; rw [hf]; rfl
    have D := Lib.hid (l01Trace n a h1 h2 ha)
    have hl := trS_lt h1 h2 ha 8
    clear hf
    have Hv := Lib.hid hv; clear hv
    go_enter Try.func23, Try.ntmps23
    go_wp2_with (first | (go_at_call 43; refine (C.out _).mono ?_; rintro e wx ⟨rfl, rfl⟩) | (go_at_call 53; refine (D.out _).mono ?_; rintro e wx ⟨rfl, rfl⟩))
    go_ret2
    exact ⟨ret_pairV Hv.out, rfl⟩
set_option maxRecDepth 100000 in
set_option maxHeartbeats 800000 in
theorem specQuadraticIn (m : Int) (a : Nat) (w : World) :
    Calls Try.prog 27 #[.int .i64 m, .int .u8 (a : Int)] w fun e w' => e = .returned (.tuple #[.int .u8 (quadraticV m a).1, .int .i64 (quadraticV m a).2]) ∧ w' = w := by
  cases hf : fieldB m with
  | false =>
    have hv : quadraticV m a = (0, 1) := by unfold quadraticV; rw [hf]; rfl
    have c := l01Field m
    rw [hf] at c
    have C := Lib.hid c
    clear c hf
    have Hv := Lib.hid hv; clear hv
    go_enter Try.func27, Try.ntmps27
    go_wp2_with (go_at_call 43; refine (C.out _).mono ?_; rintro e wx ⟨rfl, rfl⟩)
    go_ret2
    exact ⟨ret_pairV Hv.out, rfl⟩
  | true =>
    have c := l01Field m
    rw [hf] at c
    have C := Lib.hid c
    clear c
    obtain ⟨n, rfl, h1, h2, hF⟩ := fieldB_nat hf
    clear hF
    have hv : ∀ o, leastB (fun x => timesI n x x ^^^ x == a) 256 = o → quadraticV n a = orCode 4 o := fun o ho => by unfold quadraticV; rw [hf, if_pos rfl, Int.toNat_natCast, ho]
    clear hf
    have Hv := Lib.hid hv; clear hv
    go_enter Try.func27, Try.ntmps27
    go_wp2_with (go_at_call 43; refine (C.out _).mono ?_; rintro e wx ⟨rfl, rfl⟩)
    go_loop [6] (fun z => ∃ k : Nat, k ≤ 256 ∧ z = .int .i64 k ∧ ∀ i, i < k → (timesI n i i ^^^ i == a) = false) (fun z => 256 - (intOf z).toNat)
    case atStart => exact ⟨0, by omega, rfl, fun i hi => absurd hi (Nat.not_lt_zero _)⟩
    case round =>
      obtain ⟨k, hk, rfl, hi⟩ := hrel
      have Hi := Lib.hid hi; clear hi
      by_cases hlt : k < 256
      · have hki : (k : Int) < 256 := by omega
        have D := Lib.hid (l01Times n k k h1 h2 hlt hlt)
        have hkl := timesI_lt (m := n) (b := k) h1 h2 hlt
        have ex := u8_xor_nat (timesI n k k) k hkl hlt
        cases ht : (timesI n k k ^^^ k == a) with
        | true =>
          have e1 : (((timesI n k k ^^^ k : Nat) : Int) == a) = true := by rw [beq_iff_eq] at ht ⊢; omega
          have hv2 := Hv.out _ (leastB_some hlt ht Hi.out)
          clear ht
          have Hv2 := Lib.hid hv2; clear hv2
          go_wp2_with (go_at_call 46; refine (D.out _).mono ?_; rintro e wx ⟨rfl, rfl⟩)
          go_ret2
          exact ⟨ret_pairV Hv2.out, rfl⟩
        | false =>
          have e1 : (((timesI n k k ^^^ k : Nat) : Int) == a) = false := by rw [beq_eq_false_iff_ne] at ht ⊢; omega
          have Ht := Lib.hid ht; clear ht
          go_wp2_with (go_at_call 46; refine (D.out _).mono ?_; rintro e wx ⟨rfl, rfl⟩)
          go_round
          case rel =>
            refine ⟨k + 1, by omega, by go_num, fun i hi => ?_⟩
            by_cases hik : i = k
            · subst hik; exact Ht.out
            · exact Hi.out i (by omega)
          case measure => simp [intOf]; omega
      · obtain rfl : k = 256 := by omega
        have hv2 := Hv.out _ (leastB_none Hi.out)
        have Hv2 := Lib.hid hv2; clear hv2
        go_wp2_with fail
        go_ret2
        exact ⟨ret_pairV Hv2.out, rfl⟩
set_option maxRecDepth 100000 in
set_option maxHeartbeats 800000 in
theorem specLogarithmIn (m : Int) (g a : Nat) (hg : g < 256) (w : World) :
    Calls Try.prog 29 #[.int .i64 m, .int .u8 (g : Int), .int .u8 (a : Int)] w fun e w' => e = .returned (.tuple #[.int .i64 (logarithmV m g a).1, .int .i64 (logarithmV m g a).2]) ∧ w' = w := by
  cases hf : fieldB m with
  | false =>
    have hv : logarithmV m g a = (0, 1) := by unfold logarithmV; rw [hf]; rfl
    have c := l01Field m
    rw [hf] at c
    have C := Lib.hid c
    clear c hf
    have Hv := Lib.hid hv; clear hv
    go_enter Try.func29, Try.ntmps29
    go_wp2_with (go_at_call 43; refine (C.out _).mono ?_; rintro e wx ⟨rfl, rfl⟩)
    go_ret2
    exact ⟨ret_pairV Hv.out, rfl⟩
  | true =>
    have c := l01Field m
    rw [hf] at c
    have C := Lib.hid c
    clear c
    obtain ⟨n, rfl, h1, h2, hF⟩ := fieldB_nat hf
    clear hF
    have hv : ∀ o, leastB (fun k => lpw n g k == a) 256 = o → logarithmV n g a = orCode 4 o := fun o ho => by unfold logarithmV; rw [hf, if_pos rfl, Int.toNat_natCast, ho]
    clear hf
    have hll := lpw_lt (g := g) h1 h2
    have Hv := Lib.hid hv; clear hv; have Hll := Lib.hid hll; clear hll
    go_enter Try.func29, Try.ntmps29
    go_wp2_with (go_at_call 43; refine (C.out _).mono ?_; rintro e wx ⟨rfl, rfl⟩)
    go_loop [8, 9] (fun x z => ∃ k : Nat, k ≤ 256 ∧ x = .int .u8 (lpw n g k : Int) ∧ z = .int .i64 k ∧ ∀ i, i < k → (lpw n g i == a) = false) (fun _ z => 256 - (intOf z).toNat)
    case atStart => exact ⟨0, by omega, rfl, rfl, fun i hi => absurd hi (Nat.not_lt_zero _)⟩
    case round =>
      obtain ⟨k, hk, rfl, rfl, hi⟩ := hrel
      have Hi := Lib.hid hi; clear hi
      have hkl := Hll.out k
      by_cases hlt : k < 256
      · have hki : (k : Int) < 256 := by omega
        have D := Lib.hid (l01Times n (lpw n g k) g h1 h2 hkl hg)
        cases ht : (lpw n g k == a) with
        | true =>
          have e1 : ((lpw n g k : Int) == a) = true := by rw [beq_iff_eq] at ht ⊢; omega
          have hv2 := Hv.out _ (leastB_some hlt ht Hi.out)
          clear ht
          have Hv2 := Lib.hid hv2; clear hv2
          go_wp2_with fail
          go_ret2
          exact ⟨ret_pairV Hv2.out, rfl⟩
        | false =>
          have e1 : ((lpw n g k : Int) == a) = false := by rw [beq_eq_false_iff_ne] at ht ⊢; omega
          have Ht := Lib.hid ht; clear ht
          go_wp2_with (go_at_call 46; refine (D.out _).mono ?_; rintro e wx ⟨rfl, rfl⟩)
          go_round
          case rel =>
            refine ⟨k + 1, by omega, rfl, by go_num, fun i hi => ?_⟩
            by_cases hik : i = k
            · subst hik; exact Ht.out
            · exact Hi.out i (by omega)
          case measure => simp [intOf]; omega
      · obtain rfl : k = 256 := by omega
        have hv2 := Hv.out _ (leastB_none Hi.out)
        have Hv2 := Lib.hid hv2; clear hv2
        go_wp2_with fail
        go_ret2
        exact ⟨ret_pairV Hv2.out, rfl⟩
set_option maxRecDepth 100000 in
set_option maxHeartbeats 800000 in
theorem implTimesIn (m : Int) (a b : Nat) (ha : a < 256) (hb : b < 256) (w : World) :
    Calls Try.prog 18 #[.int .i64 m, .int .u8 (a : Int), .int .u8 (b : Int)] w fun e w' => e = .returned (.tuple #[.int .u8 (timesV m a b).1, .int .i64 (timesV m a b).2]) ∧ w' = w := by
  cases hf : fieldB m with
  | false =>
    have hv : timesV m a b = (0, 1) := by unfold timesV; rw [hf]; rfl
    have c := implIsField m
    rw [hf] at c
    have C := Lib.hid c
    clear c hf
    have Hv := Lib.hid hv; clear hv
    go_enter Try.func18, Try.ntmps18
    go_wp2_with (go_at_call 16; refine (C.out _).mono ?_; rintro e wx ⟨rfl, rfl⟩)
    go_ret2
    exact ⟨ret_pairV Hv.out, rfl⟩
  | true =>
    have c := implIsField m
    rw [hf] at c
    have C := Lib.hid c
    clear c
    obtain ⟨n, rfl, h1, h2, hF⟩ := fieldB_nat hf
    clear hF
    have hv : timesV n a b = (((timesI n a b : Nat) : Int), 0) := by unfold timesV; rw [hf]; rfl
    have D := Lib.hid (fTimes n a b h1 h2 ha hb)
    have hl := timesI_lt (m := n) (b := b) h1 h2 ha
    clear hf
    have Hv := Lib.hid hv; clear hv
    go_enter Try.func18, Try.ntmps18
    go_wp2_with (first | (go_at_call 16; refine (C.out _).mono ?_; rintro e wx ⟨rfl, rfl⟩) | (go_at_call 47; refine (D.out _).mono ?_; rintro e wx ⟨rfl, rfl⟩))
    go_ret2
    exact ⟨ret_pairV Hv.out, rfl⟩
set_option maxRecDepth 100000 in
set_option maxHeartbeats 800000 in
theorem implRootIn (m : Int) (a : Nat) (ha : a < 256) (w : World) :
    Calls Try.prog 26 #[.int .i64 m, .int .u8 (a : Int)] w fun e w' => e = .returned (.tuple #[.int .u8 (rootV m a).1, .int .i64 (rootV m a).2]) ∧ w' = w := by
  cases hf : fieldB m with
  | false =>
    have hv : rootV m a = (0, 1) := by unfold rootV; rw [hf]; rfl
    have c := implIsField m
    rw [hf] at c
    have C := Lib.hid c
    clear c hf
    have Hv := Lib.hid hv; clear hv
    go_enter Try.func26, Try.ntmps26
    go_wp2_with (go_at_call 16; refine (C.out _).mono ?_; rintro e wx ⟨rfl, rfl⟩)
    go_ret2
    exact ⟨ret_pairV Hv.out, rfl⟩
  | true =>
    have c := implIsField m
    rw [hf] at c
    have C := Lib.hid c
    clear c
    obtain ⟨n, rfl, h1, h2, hF⟩ := fieldB_nat hf
    clear hF
    have hv : rootV n a = (((powN n a 128 : Nat) : Int), 0) := by unfold rootV; rw [hf]; rfl
    have D := Lib.hid (fPower n a 128 h1 h2 ha (by omega))
    have hl := powN_lt (k := 128) h1 h2 ha
    clear hf
    have Hv := Lib.hid hv; clear hv
    go_enter Try.func26, Try.ntmps26
    go_wp2_with (first | (go_at_call 16; refine (C.out _).mono ?_; rintro e wx ⟨rfl, rfl⟩) | (go_at_call 50; refine (D.out _).mono ?_; rintro e wx ⟨rfl, rfl⟩))
    go_ret2
    exact ⟨ret_pairV Hv.out, rfl⟩
set_option maxRecDepth 100000 in
set_option maxHeartbeats 800000 in
theorem implInverseIn (m : Int) (a : Nat) (ha : a < 256) (w : World) :
    Calls Try.prog 22 #[.int .i64 m, .int .u8 (a : Int)] w fun e w' => e = .returned (.tuple #[.int .u8 (inverseV m a).1, .int .i64 (inverseV m a).2]) ∧ w' = w := by
  cases hf : fieldB m with
  | false =>
    have hv : inverseV m a = (0, 1) := by unfold inverseV; rw [hf]; rfl
    have c := implIsField m
    rw [hf] at c
    have C := Lib.hid c
    clear c hf
    have Hv := Lib.hid hv; clear hv
    go_enter Try.func22, Try.ntmps22
    go_wp2_with (go_at_call 16; refine (C.out _).mono ?_; rintro e wx ⟨rfl, rfl⟩)
    go_ret2
    exact ⟨ret_pairV Hv.out, rfl⟩
  | true =>
    have c := implIsField m
    rw [hf] at c
    have C := Lib.hid c
    clear c
    obtain ⟨n, rfl, h1, h2, hF⟩ := fieldB_nat hf
    clear hF
    by_cases h0 : a = 0
    · subst h0
      have hv : inverseV n 0 = (0, 5) := by unfold inverseV; rw [hf]; rfl
      clear hf
      have Hv := Lib.hid hv; clear hv
      go_enter Try.func22, Try.ntmps22
      go_wp2_with (go_at_call 16; refine (C.out _).mono ?_; rintro e wx ⟨rfl, rfl⟩)
      go_ret2
      exact ⟨ret_pairV Hv.out, rfl⟩
    · have hv : inverseV n a = (((powN n a 254 : Nat) : Int), 0) := by unfold inverseV; rw [hf, if_pos rfl, if_neg h0]; rfl
      have D := Lib.hid (fInverse n a h1 h2 ha)
      have hl := powN_lt (k := 254) h1 h2 ha
      have e0 : ((a : Int) == 0) = false := by rw [beq_eq_false_iff_ne]; omega
      clear hf
      have Hv := Lib.hid hv; clear hv
      go_enter Try.func22, Try.ntmps22
      go_wp2_with (first | (go_at_call 16; refine (C.out _).mono ?_; rintro e wx ⟨rfl, rfl⟩) | (go_at_call 52; refine (D.out _).mono ?_; rintro e wx ⟨rfl, rfl⟩))
      go_ret2
      exact ⟨ret_pairV Hv.out, rfl⟩
set_option maxRecDepth 100000 in
set_option maxHeartbeats 800000 in
theorem implPowerIn (m : Int) (a : Nat) (k : Int) (ha : a < 256) (w : World) :
    Calls Try.prog 20 #[.int .i64 m, .int .u8 (a : Int), .int .i64 k] w fun e w' => e = .returned (.tuple #[.int .u8 (powerV m a k).1, .int .i64 (powerV m a k).2]) ∧ w' = w := by
  cases hf : fieldB m with
  | false =>
    have hv : powerV m a k = (0, 1) := by unfold powerV; rw [hf]; rfl
    have c := implIsField m
    rw [hf] at c
    have C := Lib.hid c
    clear c hf
    have Hv := Lib.hid hv; clear hv
    go_enter Try.func20, Try.ntmps20
    go_wp2_with (go_at_call 16; refine (C.out _).mono ?_; rintro e wx ⟨rfl, rfl⟩)
    go_ret2
    exact ⟨ret_pairV Hv.out, rfl⟩
  | true =>
    have c := implIsField m
    rw [hf] at c
    have C := Lib.hid c
    clear c
    obtain ⟨n, rfl, h1, h2, hF⟩ := fieldB_nat hf
    clear hF
    cases hi : inB k 0 1000000000 with
    | false =>
      have hv : powerV n a k = (0, 2) := by unfold powerV; rw [hf, hi]; rfl
      have d := inRange k 0 1000000000
      rw [hi] at d
      have D := Lib.hid d
      clear hf d hi
      have Hv := Lib.hid hv; clear hv
      go_enter Try.func20, Try.ntmps20
      go_wp2_with (first | (go_at_call 16; refine (C.out _).mono ?_; rintro e wx ⟨rfl, rfl⟩) | (go_at_call 44; refine (D.out _).mono ?_; rintro e wx ⟨rfl, rfl⟩))
      go_ret2
      exact ⟨ret_pairV Hv.out, rfl⟩
    | true =>
      have d := inRange k 0 1000000000
      rw [hi] at d
      have D := Lib.hid d
      clear d
      obtain ⟨q, rfl, hq⟩ := inB_nat hi
      have hv : powerV n a q = (((powN n a q : Nat) : Int), 0) := by unfold powerV; rw [hf, hi]; rfl
      have E := Lib.hid (fPower n a q h1 h2 ha (by omega))
      have hl := powN_lt (k := q) h1 h2 ha
      clear hf hi
      have Hv := Lib.hid hv; clear hv
      go_enter Try.func20, Try.ntmps20
      go_wp2_with (first | (go_at_call 16; refine (C.out _).mono ?_; rintro e wx ⟨rfl, rfl⟩) | (go_at_call 44; refine (D.out _).mono ?_; rintro e wx ⟨rfl, rfl⟩) | (go_at_call 50; refine (E.out _).mono ?_; rintro e wx ⟨rfl, rfl⟩))
      go_ret2
      exact ⟨ret_pairV Hv.out, rfl⟩
set_option maxRecDepth 100000 in
set_option maxHeartbeats 800000 in
theorem implTraceIn (m : Int) (a : Nat) (ha : a < 256) (w : World) :
    Calls Try.prog 24 #[.int .i64 m, .int .u8 (a : Int)] w fun e w' => e = .returned (.tuple #[.int .u8 (traceV m a).1, .int .i64 (traceV m a).2]) ∧ w' = w := by
  cases hf : fieldB m with
  | false =>
    have hv : traceV m a = (0, 1) := by unfold traceV; rw [hf]; rfl
    have c := implIsField m
    rw [hf] at c
    have C := Lib.hid c
    clear c hf
    have Hv := Lib.hid hv; clear hv
    go_enter Try.func24, Try.ntmps24
    go_wp2_with (go_at_call 16; refine (C.out _).mono ?_; rintro e wx ⟨rfl, rfl⟩)
    go_ret2
    exact ⟨ret_pairV Hv.out, rfl⟩
  | true =>
    have c := implIsField m
    rw [hf] at c
    have C := Lib.hid c
    clear c
    obtain ⟨n, rfl, h1, h2, hF⟩ := fieldB_nat hf
    clear hF
    have hv : traceV n a = (((trS n a 8 : Nat) : Int), 0) := by unfold traceV; rw [hf]; rfl
    have hsl := trS_lt h1 h2 ha
    have hal := trA_lt h1 h2 ha
    clear hf
    have Hv := Lib.hid hv; clear hv; have Hsl := Lib.hid hsl; clear hsl; have Hal := Lib.hid hal; clear hal
    go_enter Try.func24, Try.ntmps24
    go_wp2_with (go_at_call 16; refine (C.out _).mono ?_; rintro e wx ⟨rfl, rfl⟩)
    go_loop [6, 1, 10] (fun x y z => ∃ k : Nat, k ≤ 8 ∧ x = .int .u8 (trS n a k : Int) ∧ y = .int .u8 (trA n a k : Int) ∧ z = .int .i64 k) (fun _ _ z => 8 - (intOf z).toNat)
    case atStart => exact ⟨0, by omega, rfl, rfl, rfl⟩
    case round =>
      obtain ⟨k, hk, rfl, rfl, rfl⟩ := hrel
      by_cases hlt : k < 8
      · have hki : (k : Int) < 8 := by omega
        have hs := Hsl.out k
        have ha2 := Hal.out k
        have ex := u8_xor_nat (trS n a k) (trA n a k) hs ha2
        have c := fTimes n (trA n a k) (trA n a k) h1 h2 ha2 ha2
        have D := Lib.hid c
        clear c
        go_wp2_with fail
        refine (D.out _).mono ?_
        rintro e wx ⟨rfl, rfl⟩
        go_wp2_with fail
        go_round
        case rel => exact ⟨k + 1, by omega, rfl, rfl, by go_num⟩
        case measure => simp [intOf]; omega
      · obtain rfl : k = 8 := by omega
        have hs := Hsl.out 8
        go_wp2
        go_ret2
        exact ⟨ret_pairV Hv.out, rfl⟩
set_option maxRecDepth 100000 in
set_option maxHeartbeats 800000 in
theorem implQuadraticIn (m : Int) (a : Nat) (w : World) :
    Calls Try.prog 28 #[.int .i64 m, .int .u8 (a : Int)] w fun e w' => e = .returned (.tuple #[.int .u8 (quadraticV m a).1, .int .i64 (quadraticV m a).2]) ∧ w' = w := by
  cases hf : fieldB m with
  | false =>
    have hv : quadraticV m a = (0, 1) := by unfold quadraticV; rw [hf]; rfl
    have c := implIsField m
    rw [hf] at c
    have C := Lib.hid c
    clear c hf
    have Hv := Lib.hid hv; clear hv
    go_enter Try.func28, Try.ntmps28
    go_wp2_with (go_at_call 16; refine (C.out _).mono ?_; rintro e wx ⟨rfl, rfl⟩)
    go_ret2
    exact ⟨ret_pairV Hv.out, rfl⟩
  | true =>
    have c := implIsField m
    rw [hf] at c
    have C := Lib.hid c
    clear c
    obtain ⟨n, rfl, h1, h2, hF⟩ := fieldB_nat hf
    clear hF
    have hv : ∀ o, leastB (fun x => timesI n x x ^^^ x == a) 256 = o → quadraticV n a = orCode 4 o := fun o ho => by unfold quadraticV; rw [hf, if_pos rfl, Int.toNat_natCast, ho]
    clear hf
    have Hv := Lib.hid hv; clear hv
    go_enter Try.func28, Try.ntmps28
    go_wp2_with (go_at_call 16; refine (C.out _).mono ?_; rintro e wx ⟨rfl, rfl⟩)
    go_loop [10] (fun z => ∃ k : Nat, k ≤ 256 ∧ z = .int .i64 k ∧ ∀ i, i < k → (timesI n i i ^^^ i == a) = false) (fun z => 256 - (intOf z).toNat)
    case atStart => exact ⟨0, by omega, rfl, fun i hi => absurd hi (Nat.not_lt_zero _)⟩
    case round =>
      obtain ⟨k, hk, rfl, hi⟩ := hrel
      have Hi := Lib.hid hi; clear hi
      by_cases hlt : k < 256
      · have hki : (k : Int) < 256 := by omega
        have D := Lib.hid (fTimes n k k h1 h2 hlt hlt)
        have hkl := timesI_lt (m := n) (b := k) h1 h2 hlt
        have ex := u8_xor_nat (timesI n k k) k hkl hlt
        cases ht : (timesI n k k ^^^ k == a) with
        | true =>
          have e1 : (((timesI n k k ^^^ k : Nat) : Int) == a) = true := by rw [beq_iff_eq] at ht ⊢; omega
          have hv2 := Hv.out _ (leastB_some hlt ht Hi.out)
          clear ht
          have Hv2 := Lib.hid hv2; clear hv2
          go_wp2_with (go_at_call 47; refine (D.out _).mono ?_; rintro e wx ⟨rfl, rfl⟩)
          go_ret2
          exact ⟨ret_pairV Hv2.out, rfl⟩
        | false =>
          have e1 : (((timesI n k k ^^^ k : Nat) : Int) == a) = false := by rw [beq_eq_false_iff_ne] at ht ⊢; omega
          have Ht := Lib.hid ht; clear ht
          go_wp2_with (go_at_call 47; refine (D.out _).mono ?_; rintro e wx ⟨rfl, rfl⟩)
          go_round
          case rel =>
            refine ⟨k + 1, by omega, by go_num, fun i hi => ?_⟩
            by_cases hik : i = k
            · subst hik; exact Ht.out
            · exact Hi.out i (by omega)
          case measure => simp [intOf]; omega
      · obtain rfl : k = 256 := by omega
        have hv2 := Hv.out _ (leastB_none Hi.out)
        have Hv2 := Lib.hid hv2; clear hv2
        go_wp2_with fail
        go_ret2
        exact ⟨ret_pairV Hv2.out, rfl⟩
set_option maxRecDepth 100000 in
set_option maxHeartbeats 800000 in
theorem implLogarithmIn (m : Int) (g a : Nat) (hg : g < 256) (w : World) :
    Calls Try.prog 30 #[.int .i64 m, .int .u8 (g : Int), .int .u8 (a : Int)] w fun e w' => e = .returned (.tuple #[.int .i64 (logarithmV m g a).1, .int .i64 (logarithmV m g a).2]) ∧ w' = w := by
  cases hf : fieldB m with
  | false =>
    have hv : logarithmV m g a = (0, 1) := by unfold logarithmV; rw [hf]; rfl
    have c := implIsField m
    rw [hf] at c
    have C := Lib.hid c
    clear c hf
    have Hv := Lib.hid hv; clear hv
    go_enter Try.func30, Try.ntmps30
    go_wp2_with (go_at_call 16; refine (C.out _).mono ?_; rintro e wx ⟨rfl, rfl⟩)
    go_ret2
    exact ⟨ret_pairV Hv.out, rfl⟩
  | true =>
    have c := implIsField m
    rw [hf] at c
    have C := Lib.hid c
    clear c
    obtain ⟨n, rfl, h1, h2, hF⟩ := fieldB_nat hf
    clear hF
    have hv : ∀ o, leastB (fun k => lpw n g k == a) 256 = o → logarithmV n g a = orCode 4 o := fun o ho => by unfold logarithmV; rw [hf, if_pos rfl, Int.toNat_natCast, ho]
    clear hf
    have hll := lpw_lt (g := g) h1 h2
    have Hv := Lib.hid hv; clear hv; have Hll := Lib.hid hll; clear hll
    go_enter Try.func30, Try.ntmps30
    go_wp2_with (go_at_call 16; refine (C.out _).mono ?_; rintro e wx ⟨rfl, rfl⟩)
    go_loop [8, 13] (fun x z => ∃ k : Nat, k ≤ 256 ∧ x = .int .u8 (lpw n g k : Int) ∧ z = .int .i64 k ∧ ∀ i, i < k → (lpw n g i == a) = false) (fun _ z => 256 - (intOf z).toNat)
    case atStart => exact ⟨0, by omega, rfl, rfl, fun i hi => absurd hi (Nat.not_lt_zero _)⟩
    case round =>
      obtain ⟨k, hk, rfl, rfl, hi⟩ := hrel
      have Hi := Lib.hid hi; clear hi
      have hkl := Hll.out k
      by_cases hlt : k < 256
      · have hki : (k : Int) < 256 := by omega
        have D := Lib.hid (fTimes n (lpw n g k) g h1 h2 hkl hg)
        cases ht : (lpw n g k == a) with
        | true =>
          have e1 : ((lpw n g k : Int) == a) = true := by rw [beq_iff_eq] at ht ⊢; omega
          have hv2 := Hv.out _ (leastB_some hlt ht Hi.out)
          clear ht
          have Hv2 := Lib.hid hv2; clear hv2
          go_wp2_with fail
          go_ret2
          exact ⟨ret_pairV Hv2.out, rfl⟩
        | false =>
          have e1 : ((lpw n g k : Int) == a) = false := by rw [beq_eq_false_iff_ne] at ht ⊢; omega
          have Ht := Lib.hid ht; clear ht
          go_wp2_with (go_at_call 47; refine (D.out _).mono ?_; rintro e wx ⟨rfl, rfl⟩)
          go_round
          case rel =>
            refine ⟨k + 1, by omega, rfl, by go_num, fun i hi => ?_⟩
            by_cases hik : i = k
            · subst hik; exact Ht.out
            · exact Hi.out i (by omega)
          case measure => simp [intOf]; omega
      · obtain rfl : k = 256 := by omega
        have hv2 := Hv.out _ (leastB_none Hi.out)
        have Hv2 := Lib.hid hv2; clear hv2
        go_wp2_with fail
        go_ret2
        exact ⟨ret_pairV Hv2.out, rfl⟩
end Go.Proofs.Ytcfmaicmlcmleaa
