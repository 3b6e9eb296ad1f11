/- Contracts: powers, traces and the pair-valued functions of the field layer, by the program and by the reference. No condition. -/
import Derived.Test.YtphfiekhpicpgaaRows
import Derived.Test.YtphfiekhpicpgaaTimes
namespace Go.Proofs.Ytphfiekhpicpgaa
open Go.RowKit Plain
namespace Plain
def PW (m : Nat) : Nat → Nat → Nat → Nat → Nat
  | 0, o, _, _ => o
  | f + 1, o, a, k => if k = 0 then o else PW m f (if k % 2 = 1 then timesI m o a else o) (timesI m a a) (k / 2)
def powN (m a k : Nat) : Nat := PW m 32 1 a k
theorem PW_zero (m : Nat) : ∀ f o a, PW m f o a 0 = o
  | 0, _, _ => rfl
  | _ + 1, _, _ => by unfold PW; rw [if_pos rfl]
theorem PW_lt {m : Nat} (h1 : 256 ≤ m) (h2 : m < 512) : ∀ f o a k, o < 256 → a < 256 → PW m f o a k < 256
  | 0, _, _, _, ho, _ => ho
  | f + 1, o, a, k, ho, ha => by
    unfold PW
    split
    · exact ho
    · refine PW_lt h1 h2 f _ _ _ ?_ (timesI_lt h1 h2 ha)
      split
      · exact timesI_lt h1 h2 ho
      · exact ho
theorem powN_lt {m a k : Nat} (h1 : 256 ≤ m) (h2 : m < 512) (ha : a < 256) : powN m a k < 256 := PW_lt h1 h2 _ _ _ _ (by omega) ha
def trA (m a : Nat) : Nat → Nat
  | 0 => a
  | k + 1 => timesI m (trA m a k) (trA m a k)
def trS (m a : Nat) : Nat → Nat
  | 0 => 0
  | k + 1 => trS m a k ^^^ trA m a k
theorem trA_lt {m a : Nat} (h1 : 256 ≤ m) (h2 : m < 512) (ha : a < 256) : ∀ k, trA m a k < 256
  | 0 => ha
  | k + 1 => timesI_lt h1 h2 (trA_lt h1 h2 ha k)
theorem trS_lt {m a : Nat} (h1 : 256 ≤ m) (h2 : m < 512) (ha : a < 256) : ∀ k, trS m a k < 256
  | 0 => by show (0 : Nat) < 256; omega
  | k + 1 => Nat.xor_lt_two_pow (n := 8) (trS_lt h1 h2 ha k) (trA_lt h1 h2 ha k)
def lpw (m g : Nat) : Nat → Nat
  | 0 => 1
  | k + 1 => timesI m (lpw m g k) g
theorem lpw_lt {m g : Nat} (h1 : 256 ≤ m) (h2 : m < 512) : ∀ k, lpw m g k < 256
  | 0 => by show (1 : Nat) < 256; omega
  | k + 1 => timesI_lt h1 h2 (lpw_lt h1 h2 k)
/-- The least number below n that p holds of. -/
def leastB (p : Nat → Bool) (n : Nat) : Option Nat := (List.range n).find? p
theorem leastB_some {p : Nat → Bool} : ∀ {n k : Nat}, k < n → p k = true → (∀ i, i < k → p i = false) → leastB p n = some k
  | 0, k, hk, _, _ => absurd hk (Nat.not_lt_zero k)
  | n + 1, k, hk, hp, hi => by
    unfold leastB
    rw [List.range_succ, List.find?_append]
    by_cases h : k < n
    · have := leastB_some h hp hi
      unfold leastB at this
      rw [this]
      rfl
    · obtain rfl : k = n := by omega
      have h0 : (List.range k).find? p = none := List.find?_eq_none.2 fun x hx => by
        rw [hi x (List.mem_range.1 hx)]
        simp
      rw [h0]
      simp [hp]
theorem leastB_none {p : Nat → Bool} {n : Nat} (hi : ∀ i, i < n → p i = false) : leastB p n = none :=
  List.find?_eq_none.2 fun x hx => by
    rw [hi x (List.mem_range.1 hx)]
    simp
def orCode (c : Int) : Option Nat → Int × Int
  | some x => (x, 0)
  | none => (0, c)
end Plain
def timesV (m : Int) (a b : Nat) : Int × Int := if fieldB m then (timesI m.toNat a b, 0) else (0, 1)
def powerV (m : Int) (a : Nat) (k : Int) : Int × Int := if fieldB m then (if inB k 0 1000000000 then (powN m.toNat a k.toNat, 0) else (0, 2)) else (0, 1)
def inverseV (m : Int) (a : Nat) : Int × Int := if fieldB m then (if a = 0 then (0, 5) else (powN m.toNat a 254, 0)) else (0, 1)
def rootV (m : Int) (a : Nat) : Int × Int := if fieldB m then (powN m.toNat a 128, 0) else (0, 1)
def traceV (m : Int) (a : Nat) : Int × Int := if fieldB m then (trS m.toNat a 8, 0) else (0, 1)
def quadraticV (m : Int) (a : Nat) : Int × Int := if fieldB m then orCode 4 (leastB (fun x => timesI m.toNat x x ^^^ x == a) 256) else (0, 1)
def logarithmV (m : Int) (g a : Nat) : Int × Int := if fieldB m then orCode 4 (leastB (fun k => lpw m.toNat g k == a) 256) else (0, 1)
theorem ret_pairV {k : IntKind} {v : Int × Int} {x c : Int} (h : v = (x, c)) : Ending.returned (.tuple #[.int k x, .int .i64 c]) = .returned (.tuple #[.int k v.1, .int .i64 v.2]) := by rw [h]
theorem inB_nat {k : Int} (h : inB k 0 1000000000 = true) : ∃ n : Nat, k = n ∧ n ≤ 1000000000 := by
  unfold inB at h
  simp only [Bool.and_eq_true, decide_eq_true_eq] at h
  exact ⟨k.toNat, by omega, by omega⟩

set_option maxRecDepth 100000 in
set_option maxHeartbeats 400000 in
theorem fPower (m a k : Nat) (h1 : 256 ≤ m) (h2 : m < 512) (ha : a < 256) (hk : k < 2 ^ 32) (w : World) :
    Calls Try.prog 55 #[.int .i64 (m : Int), .int .u8 (a : Int), .int .i64 (k : Int)] w fun e w' => e = .returned (.int .u8 (powN m a k : Int)) ∧ w' = w := by
  go_enter Try.func55, Try.ntmps55
  go_wp2
  go_loop [7, 1, 2] (fun x y z => ∃ o n r f : Nat, o < 256 ∧ n < 256 ∧ r < 2 ^ f ∧ f ≤ 32 ∧ x = .int .u8 o ∧ y = .int .u8 n ∧ z = .int .i64 r ∧ PW m f o n r = powN m a k) (fun _ _ z => (intOf z).toNat)
  case atStart => exact ⟨1, a, k, 32, by omega, ha, hk, by omega, rfl, rfl, rfl, rfl⟩
  case round =>
    obtain ⟨o, n, r, f, ho, hn, hr, hf, rfl, rfl, rfl, he⟩ := hrel
    by_cases h0 : r = 0
    · subst h0
      have he2 : powN m a k = o := by rw [← he, PW_zero]
      clear he hk
      have He2 := Lib.hid he2; clear he2
      go_wp2
      go_ret
      exact ⟨ret_int (by rw [He2.out]), rfl⟩
    · have hr0 : (0 : Int) < r := by omega
      obtain ⟨g, rfl⟩ : ∃ g, f = g + 1 := ⟨f - 1, by
        have : f ≠ 0 := fun e => by subst e; omega
        omega⟩
      have hr2 : r / 2 < 2 ^ g := by rw [Nat.pow_succ] at hr; omega
      have hr256 : r < 4294967296 := Nat.lt_of_lt_of_le hr (show 2 ^ (g + 1) ≤ 2 ^ 32 from Nat.pow_le_pow_right (by omega) hf)
      have he2 : PW m g (if r % 2 = 1 then timesI m o n else o) (timesI m n n) (r / 2) = powN m a k := by
        rw [← he]
        show _ = if r = 0 then _ else _
        rw [if_neg h0]
      have hnn := timesI_lt (m := m) (a := n) (b := n) h1 h2 hn
      have hon := timesI_lt (m := m) (a := o) (b := n) h1 h2 ho
      have c1 := fTimes m n n h1 h2 hn hn
      have c2 := fTimes m o n h1 h2 ho hn
      have C1 := Lib.hid c1
      have C2 := Lib.hid c2
      clear he hr c1 c2 hk
      by_cases hp : r % 2 = 1
      · have e1 : ((r : Int) % 2 == 1) = true := by rw [beq_iff_eq]; omega
        rw [if_pos hp] at he2
        have He2 := Lib.hid he2; clear he2; have Hr2 := Lib.hid hr2; clear hr2
        go_wp2_with fail
        refine (C2.out _).mono ?_
        rintro e wx ⟨rfl, rfl⟩
        go_wp2_with fail
        refine (C1.out _).mono ?_
        rintro e wx ⟨rfl, rfl⟩
        go_wp2_with fail
        go_round
        case rel => exact ⟨timesI m o n, timesI m n n, r / 2, g, hon, hnn, Hr2.out, by omega, rfl, rfl, by go_num, He2.out⟩
        case measure => simp [intOf]; omega
      · have e1 : ((r : Int) % 2 == 1) = false := by rw [beq_eq_false_iff_ne]; omega
        rw [if_neg hp] at he2
        have He2 := Lib.hid he2; clear he2; have Hr2 := Lib.hid hr2; clear hr2
        go_wp2_with fail
        refine (C1.out _).mono ?_
        rintro e wx ⟨rfl, rfl⟩
        go_wp2_with fail
        go_round
        case rel => exact ⟨o, timesI m n n, r / 2, g, ho, hnn, Hr2.out, by omega, rfl, rfl, by go_num, He2.out⟩
        case measure => simp [intOf]; omega
set_option maxRecDepth 100000 in
set_option maxHeartbeats 800000 in
theorem implPowerIn (m : Int) (a : Nat) (k : Int) (ha : a < 256) (w : World) :
    Calls Try.prog 16 #[.int .i64 m, .int .u8 (a : Int), .int .i64 k] w fun e w' => e = .returned (.tuple #[.int .u8 (powerV m a k).1, .int .i64 (powerV m a k).2]) ∧ w' = w := by
  cases hf : fieldB m with
  | false =>
    have hv : powerV m a k = (0, 1) := by unfold powerV; rw [hf]; rfl
    have c := implIsField m
    rw [hf] at c
    have C := Lib.hid c
    clear c hf
    have Hv := Lib.hid hv; clear hv
    go_enter Try.func16, Try.ntmps16
    go_wp2_with (go_at_call 53; refine (C.out _).mono ?_; rintro e wx ⟨rfl, rfl⟩)
    go_ret2
    exact ⟨ret_pairV Hv.out, rfl⟩
  | true =>
    have c := implIsField m
    rw [hf] at c
    have C := Lib.hid c
    clear c
    obtain ⟨n, rfl, h1, h2, hF⟩ := fieldB_nat hf
    clear hF
    cases hi : inB k 0 1000000000 with
    | false =>
      have hv : powerV n a k = (0, 2) := by unfold powerV; rw [hf, hi]; rfl
      have d := inRange k 0 1000000000
      rw [hi] at d
      have D := Lib.hid d
      clear hf d hi
      have Hv := Lib.hid hv; clear hv
      go_enter Try.func16, Try.ntmps16
      go_wp2_with (first | (go_at_call 53; refine (C.out _).mono ?_; rintro e wx ⟨rfl, rfl⟩) | (go_at_call 54; refine (D.out _).mono ?_; rintro e wx ⟨rfl, rfl⟩))
      go_ret2
      exact ⟨ret_pairV Hv.out, rfl⟩
    | true =>
      have d := inRange k 0 1000000000
      rw [hi] at d
      have D := Lib.hid d
      clear d
      obtain ⟨q, rfl, hq⟩ := inB_nat hi
      have hv : powerV n a q = (((powN n a q : Nat) : Int), 0) := by unfold powerV; rw [hf, hi]; rfl
      have E := Lib.hid (fPower n a q h1 h2 ha (by omega))
      have hl := powN_lt (k := q) h1 h2 ha
      clear hf hi
      have Hv := Lib.hid hv; clear hv
      go_enter Try.func16, Try.ntmps16
      go_wp2_with (first | (go_at_call 53; refine (C.out _).mono ?_; rintro e wx ⟨rfl, rfl⟩) | (go_at_call 54; refine (D.out _).mono ?_; rintro e wx ⟨rfl, rfl⟩) | (go_at_call 55; refine (E.out _).mono ?_; rintro e wx ⟨rfl, rfl⟩))
      go_ret2
      exact ⟨ret_pairV Hv.out, rfl⟩
end Go.Proofs.Ytphfiekhpicpgaa
