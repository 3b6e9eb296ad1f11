/- Contracts: uniformity, by the program and by the reference, and the walk of the law. No condition. -/
import Derived.Test.YtphfiekhpicpgaaRows
import Derived.Test.YtphfiekhpicpgaaFixed
set_option linter.unusedVariables false
namespace Go.Proofs.Ytphfiekhpicpgaa
open Go.RowKit Plain
def mx (f : Nat → Int) : Nat → Int
  | 0 => f 0
  | k + 1 => max (mx f k) (f (k + 1))
def runMax (a : Int) (f : Nat → Int) : Nat → Int
  | 0 => a
  | k + 1 => max (runMax a f k) (f k)
theorem runMax_mx (a : Int) (f : Nat → Int) : ∀ k, runMax a f (k + 1) = max a (mx f k)
  | 0 => rfl
  | k + 1 => by
    have := runMax_mx a f k
    show max (runMax a f (k + 1)) (f (k + 1)) = max a (max (mx f k) (f (k + 1)))
    rw [this]
    omega
def uniTo (b : Nat → UInt8) : Nat → Int
  | 0 => 0
  | j + 1 => runMax (uniTo b j) (diffTo b (UInt8.ofNat (j + 1)) 256) 256
theorem max_if (a b : Int) : (if a < b then b else a) = max a b := by split <;> omega
theorem u8_nat {k : Nat} (h : k < 256) : (k : Int) = ((UInt8.ofNat k).toNat : Int) := by rw [toNat_ofNat_lt h]
set_option maxRecDepth 100000 in
set_option maxHeartbeats 400000 in
theorem slicesMax {B n : Nat} {v : Value} {f : Nat → Int} (w : World) (hr : RowF w B 2 v n (lng f)) (h0 : 0 < n) (hn : n < 4294967296) :
    Calls Try.prog 77 #[v] w fun e w' => e = .returned (.int .i64 (mx f (n - 1))) ∧ w' = w := by
  obtain ⟨a1, c1, rfl, hc1, hm1, f1⟩ := hr.form
  obtain ⟨g1, rfl, _, _⟩ := f1.resolve_left (by omega)
  clear f1 hc1 hm1
  have c0 : w.cell? ⟨g1, 0, none⟩ = some (.int .i64 (f 0)) := hr.at_ h0
  have h1 : ¬ (n : Int) < 1 := by omega
  have Hr := Lib.hid hr; clear hr
  go_enter Try.func77, Try.ntmps77
  go_wp2
  go_loop [3, 4] (fun m i => ∃ k : Nat, k + 1 ≤ n ∧ i = .int .i64 ((k : Int) + 1) ∧ m = .int .i64 (mx f k)) (fun _ i => n - (intOf i).toNat)
  case atStart => exact ⟨0, by omega, rfl, rfl⟩
  case round =>
    obtain ⟨k, hk, rfl, rfl⟩ := hrel
    by_cases hlt : k + 1 < n
    · have hki : (k : Int) + 1 < n := by omega
      have c1 : w.cell? ⟨g1, k + 1, none⟩ = some (.int .i64 (f (k + 1))) := Hr.out.at_ hlt
      have em : mx f (k + 1) = if mx f k < f (k + 1) then f (k + 1) else mx f k := (max_if _ _).symm
      go_wp2
      go_round
      case rel => exact ⟨k + 1, by omega, by go_num, by rw [em]⟩
      case measure => simp [intOf]; omega
    · obtain rfl : n = k + 1 := by omega
      go_wp2
      go_ret
      exact ⟨rfl, rfl⟩
set_option maxRecDepth 100000 in
set_option maxHeartbeats 800000 in
theorem specUniformityOf (b : Nat → UInt8) (w : World) :
    Calls Try.prog 40 #[.agg (byteRow 256 b)] w fun e w' => e = .returned (.int .i64 (uniTo b 255)) ∧ Below w.heap.size w w' := by
  go_enter Try.func40, Try.ntmps40
  go_wp2
  go_loopw [4, 3] (fun i m wr => ∃ k : Nat, k ≤ 255 ∧ i = .int .i64 ((k : Int) + 1) ∧ m = .int .i64 (uniTo b k) ∧ Blk wr w.heap.size 27 (byteRow 256 b) ∧ Below w.heap.size w wr)
    (fun i _ _ => 257 - (intOf i).toNat)
  case atStart => exact ⟨0, by omega, rfl, rfl, Blk.new w _ _, (Below.refl _ _).alloc (by omega) _⟩
  case round =>
    obtain ⟨k, hk, rfl, rfl, b0, hb⟩ := hrel
    by_cases hlt : k < 255
    · have hki : (k : Int) + 1 < 256 := by omega
      have ek := u8_nat (k := k + 1) (by omega)
      have ek2 : ((UInt8.ofNat (k + 1)).toNat : Int) = (k : Int) + 1 := by rw [← ek]; rfl
      have c := l02Differences b (UInt8.ofNat (k + 1)) wr
      rw [ek2] at c
      have hst : uniTo b (k + 1) = runMax (uniTo b k) (diffTo b (UInt8.ofNat (k + 1)) 256) 256 := rfl
      obtain ⟨F, hF⟩ : ∃ F, diffTo b (UInt8.ofNat (k + 1)) 256 = F := ⟨_, rfl⟩
      rw [hF] at c hst
      have C := Lib.hid c
      clear c ek ek2 hF
      have Hst := Lib.hid hst; clear hst
      have k0 := Lib.hid b0
      have l := Lib.hid hb
      clear b0 hb
      go_wp2_with (first | (refine wpList_loadH rfl _ _ rfl _ rfl (by assumption) Try.underlying27 rfl size27 (byteRow_size _ _) ?_) | (go_at_call 76; refine C.out.mono ?_; rintro e wx ⟨v, rfl, hr, hb⟩; have k0 := carryB k0 hb; have l := carryS l hb; have rr := Lib.hid hr; clear hr hb))
      obtain ⟨a1, c1, rfl, hc1, hm1, f1⟩ := rr.out.form
      obtain ⟨g1, rfl, _, _⟩ := f1.resolve_left (by omega)
      clear f1 hc1 hm1
      obtain ⟨wo, hwo⟩ : ∃ wo : World, wo = wx := ⟨_, rfl⟩
      subst hwo
      go_loop [6, 3] (fun i m => ∃ j : Nat, j ≤ 256 ∧ i = .int .i64 j ∧ m = .int .i64 (runMax (uniTo b k) F j)) (fun i _ => 256 - (intOf i).toNat)
      case atStart => exact ⟨0, by omega, rfl, rfl⟩
      case round =>
        obtain ⟨j, hj, rfl, rfl⟩ := hrel
        by_cases hjl : j < 256
        · have hji : (j : Int) < 256 := by omega
          have c1 : wo.cell? ⟨g1, j, none⟩ = some (.int .i64 (F j)) := rr.out.at_ hjl
          have em : runMax (uniTo b k) F (j + 1) = if runMax (uniTo b k) F j < F j then F j else runMax (uniTo b k) F j := (max_if _ _).symm
          go_wp2
          go_round
          case rel => exact ⟨j + 1, by omega, by go_num, by rw [em]⟩
          case measure => simp [intOf]; omega
        · obtain rfl : j = 256 := by omega
          go_wp2
          go_roundw
          case rel => exact ⟨k + 1, by omega, by go_num, by rw [Hst.out], k0.out, l.out⟩
          case measure => simp [intOf]; omega
    · obtain rfl : k = 255 := by omega
      have H0 := Lib.hid b0; clear b0; have Hb := Lib.hid hb; clear hb
      go_wp2
      go_ret
      exact ⟨rfl, Hb.out⟩
set_option maxRecDepth 100000 in
set_option maxHeartbeats 800000 in
theorem implUniformityOf (b : Nat → UInt8) (w : World) :
    Calls Try.prog 39 #[.agg (byteRow 256 b)] w fun e w' => e = .returned (.int .i64 (uniTo b 255)) ∧ Below w.heap.size w w' := by
  go_enter Try.func39, Try.ntmps39
  go_wp2
  go_loopw [4, 3] (fun i m wr => ∃ k : Nat, k ≤ 255 ∧ i = .int .i64 ((k : Int) + 1) ∧ m = .int .i64 (uniTo b k) ∧ Blk wr w.heap.size 27 (byteRow 256 b) ∧ Below w.heap.size w wr)
    (fun i _ _ => 257 - (intOf i).toNat)
  case atStart => exact ⟨0, by omega, rfl, rfl, Blk.new w _ _, (Below.refl _ _).alloc (by omega) _⟩
  case round =>
    obtain ⟨k, hk, rfl, rfl, b0, hb⟩ := hrel
    by_cases hlt : k < 255
    · have hki : (k : Int) + 1 < 256 := by omega
      have ek := u8_nat (k := k + 1) (by omega)
      have ek2 : ((UInt8.ofNat (k + 1)).toNat : Int) = (k : Int) + 1 := by rw [← ek]; rfl
      have c := implDifferencesOf b (UInt8.ofNat (k + 1)) wr
      rw [ek2] at c
      have hst : uniTo b (k + 1) = runMax (uniTo b k) (diffTo b (UInt8.ofNat (k + 1)) 256) 256 := rfl
      obtain ⟨F, hF⟩ : ∃ F, diffTo b (UInt8.ofNat (k + 1)) 256 = F := ⟨_, rfl⟩
      rw [hF] at c hst
      have C := Lib.hid c
      clear c ek ek2 hF
      have Hst := Lib.hid hst; clear hst
      have em : uniTo b (k + 1) = if uniTo b k < mx F 255 then mx F 255 else uniTo b k := Hst.out.trans ((runMax_mx _ _ _).trans (max_if _ _).symm)
      have k0 := Lib.hid b0
      have l := Lib.hid hb
      clear b0 hb
      have Hm := Lib.hid em; clear em
      go_wp2_with (first | (refine wpList_loadH rfl _ _ rfl _ rfl (by assumption) Try.underlying27 rfl size27 (byteRow_size _ _) ?_) | (go_at_call 35; refine C.out.mono ?_; rintro e wx ⟨v, rfl, hr, hb⟩; have k0 := carryB k0 hb; have l := carryS l hb; have rr := Lib.hid hr; clear hr hb) | (go_at_call 77; refine (slicesMax _ rr.out (by omega) (by omega)).mono ?_; rintro e wy ⟨rfl, rfl⟩))
      go_roundw
      case rel => exact ⟨k + 1, by omega, by go_num, by rw [Hm.out], k0.out, l.out⟩
      case measure => simp [intOf]; omega
    · obtain rfl : k = 255 := by omega
      have H0 := Lib.hid b0; clear b0; have Hb := Lib.hid hb; clear hb
      go_wp2
      go_ret
      exact ⟨rfl, Hb.out⟩
end Go.Proofs.Ytphfiekhpicpgaa
