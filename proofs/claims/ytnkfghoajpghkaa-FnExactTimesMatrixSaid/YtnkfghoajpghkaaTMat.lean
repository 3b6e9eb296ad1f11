/- Contracts: products of matrices over a field, by the program and by the reference, and the walk of the law. No condition. -/
import Derived.Test.YtnkfghoajpghkaaRows
import Derived.Test.YtnkfghoajpghkaaLaws
import Derived.Test.YtnkfghoajpghkaaPerm
import Derived.Test.YtnkfghoajpghkaaMat
import Derived.Test.YtnkfghoajpghkaaTimes
import Derived.Test.YtnkfghoajpghkaaDraw
import Derived.StillTailTactics
set_option linter.unusedVariables false
namespace Go.Proofs.Ytnkfghoajpghkaa
open Go.RowKit Plain
def mtAcc (m : Nat) (a b : Nat → UInt8) (i j : Nat) : Nat → UInt8
  | 0 => 0
  | k + 1 => mtAcc m a b i j k ^^^ UInt8.ofNat (timesI m (a (i * 4 + k)).toNat (b (k * 4 + j)).toNat)
def mtV (m : Nat) (a b : Nat → UInt8) : Nat → UInt8 := fun p => mtAcc m a b (p / 4) (p % 4) 4
def tmV (m : Int) (a b : Nat → UInt8) : Nat → UInt8 := if fieldB m = true then mtV m.toNat a b else fun _ => 0
def tmC (m : Int) : Int := if fieldB m = true then 0 else 1
def mtF (m : Nat) (a b : Nat → UInt8) (p : Nat) : Nat → UInt8 := fun i => if i < p then mtV m a b i else 0
theorem mt_start (m : Nat) (a b : Nat → UInt8) (i j : Nat) : byteRow 16 (mtF m a b (i * 4 + j)) = byteRow 16 (upd (mtF m a b (i * 4 + j)) (i * 4 + j) (mtAcc m a b i j 0)) := byteRow_congr fun q _ => by
  unfold upd
  by_cases h : q = i * 4 + j
  · subst h
    rw [if_pos rfl]
    unfold mtF
    rw [if_neg (Nat.lt_irrefl _)]
    rfl
  · rw [if_neg h]
theorem mt_end (m : Nat) (a b : Nat → UInt8) (i j : Nat) (hj : j < 4) : byteRow 16 (upd (mtF m a b (i * 4 + j)) (i * 4 + j) (mtAcc m a b i j 4)) = byteRow 16 (mtF m a b (i * 4 + (j + 1))) := by
  have e : mtAcc m a b i j 4 = mtV m a b (i * 4 + j) := by
    unfold mtV
    rw [show (i * 4 + j) / 4 = i by omega, show (i * 4 + j) % 4 = j by omega]
  rw [e]
  unfold mtF
  rw [upd_fill]
  rfl
theorem upd_upd {n : Nat} (f : Nat → UInt8) (k : Nat) (u v : UInt8) : byteRow n (upd (upd f k u) k v) = byteRow n (upd f k v) := byteRow_congr fun i _ => by
  unfold upd
  split <;> rfl
theorem ret_pairT {a b : Array Value} {n m : Int} (h : a = b) (h2 : n = m) : Ending.returned (.tuple #[.agg a, .int .i64 n]) = .returned (.tuple #[.agg b, .int .i64 m]) := by rw [h, h2]
theorem tm_good {m : Nat} {a b : Nat → UInt8} (h : fieldB (m : Int) = true) : tmV m a b = mtV m a b ∧ tmC m = 0 := by
  unfold tmV tmC
  rw [if_pos h, if_pos h]
  exact ⟨rfl, rfl⟩
theorem tm_bad {m : Int} {a b : Nat → UInt8} (h : fieldB m = false) : tmV m a b = (fun _ => 0) ∧ tmC m = 1 := by
  unfold tmV tmC
  rw [h]
  exact ⟨rfl, rfl⟩
theorem builtMatT : Try.prog.built 30 [] = some (byteRow 16 (fun _ => 0)) := by kernel_rfl
set_option maxRecDepth 100000 in
set_option maxHeartbeats 1600000 in
theorem l03Times (m : Nat) (a b : Nat → UInt8) (h1 : 256 ≤ m) (h2 : m < 512) (w : World) :
    Calls Try.prog 53 #[.int .i64 (m : Int), .agg (byteRow 16 a), .agg (byteRow 16 b)] w fun e w' => e = .returned (.agg (byteRow 16 (mtV m a b))) ∧ Below w.heap.size w w' := by
  go_enter Try.func53, Try.ntmps53
  go_wp2_with (first | (refine wpList_buildZ rfl _ rfl builtMatT ?_) | (refine wpList_storeR rfl _ _ _ rfl _ _ rfl rfl ((Blk.newAt (by simp)).eq_ zero16) size30 (byteRow_size _ _) (byteRow_size _ _) (byteRow_all _ _) ?_))
  go_loopw [8] (fun i wr => ∃ i0 : Nat, i0 ≤ 4 ∧ i = .int .i64 i0 ∧ Blk wr w.heap.size 30 (byteRow 16 a) ∧ Blk wr (w.heap.size + 1) 30 (byteRow 16 b) ∧ Blk wr (w.heap.size + 1 + 1) 30 (byteRow 16 (fun _ => 0)) ∧ Blk wr (w.heap.size + 1 + 1 + 1) 30 (byteRow 16 (mtF m a b (i0 * 4))) ∧ Below w.heap.size w wr) (fun i _ => 4 - (intOf i).toNat)
  case atStart =>
    rw [zero16]
    exact ⟨0, by omega, rfl, ((((Blk.new w _ _).alloc _).alloc _).alloc _).rowFar (by omega) _, (((Blk.newAt (w := w.alloc _) (by simp)).alloc _).alloc _).rowFar (by omega) _, ((Blk.newAt (w := (w.alloc _).alloc _) (by simp)).alloc _).rowFar (by omega) _, ((Blk.newAt (w := ((w.alloc _).alloc _).alloc _) (by simp)).setRow _).eq_ (byteRow_none _ (mtV m a b) _), below_row (((((Below.refl _ _).alloc (by omega) _).alloc (by simp) _).alloc (by simp; omega) _).alloc (by simp; omega) _) (by omega) _⟩
  case round =>
    obtain ⟨i, hi, rfl, b0, b1, b2, b3, hb⟩ := hrel
    by_cases hit : i < 4
    · have hii : (i : Int) < 4 := by omega
      have H0 := Lib.hid b0; clear b0; have H1 := Lib.hid b1; clear b1; have H2 := Lib.hid b2; clear b2; have H3 := Lib.hid b3; clear b3; have Hb := Lib.hid hb; clear hb
      obtain ⟨wo, rfl⟩ : ∃ wo : World, wo = wr := ⟨_, rfl⟩
      go_wp2
      go_loopw [9] (fun j wr => ∃ j0 : Nat, j0 ≤ 4 ∧ j = .int .i64 j0 ∧ Blk wr w.heap.size 30 (byteRow 16 a) ∧ Blk wr (w.heap.size + 1) 30 (byteRow 16 b) ∧ Blk wr (w.heap.size + 1 + 1) 30 (byteRow 16 (fun _ => 0)) ∧ Blk wr (w.heap.size + 1 + 1 + 1) 30 (byteRow 16 (mtF m a b (i * 4 + j0))) ∧ Below w.heap.size w wr) (fun j _ => 4 - (intOf j).toNat)
      case atStart => exact ⟨0, by omega, rfl, H0.out, H1.out, H2.out, H3.out, Hb.out⟩
      case round =>
        clear H0 H1 H2 H3 Hb
        obtain ⟨j, hj, rfl, b0, b1, b2, b3, hb⟩ := hrel
        by_cases hjt : j < 4
        · have hji : (j : Int) < 4 := by omega
          have H0 := Lib.hid b0; clear b0; have H1 := Lib.hid b1; clear b1; have H2 := Lib.hid b2; clear b2; have H3 := Lib.hid b3; clear b3; have Hb := Lib.hid hb; clear hb
          obtain ⟨wo, rfl⟩ : ∃ wo : World, wo = wr := ⟨_, rfl⟩
          go_wp2
          go_loopw [10] (fun k wr => ∃ k0 : Nat, k0 ≤ 4 ∧ k = .int .i64 k0 ∧ Blk wr w.heap.size 30 (byteRow 16 a) ∧ Blk wr (w.heap.size + 1) 30 (byteRow 16 b) ∧ Blk wr (w.heap.size + 1 + 1) 30 (byteRow 16 (fun _ => 0)) ∧ Blk wr (w.heap.size + 1 + 1 + 1) 30 (byteRow 16 (upd (mtF m a b (i * 4 + j)) (i * 4 + j) (mtAcc m a b i j k0))) ∧ Below w.heap.size w wr) (fun k _ => 4 - (intOf k).toNat)
          case atStart => exact ⟨0, by omega, rfl, H0.out, H1.out, H2.out, H3.out.eq_ (mt_start m a b i j), Hb.out⟩
          case round =>
            clear H0 H1 H2 H3 Hb
            obtain ⟨k, hk, rfl, b0, b1, b2, b3, hb⟩ := hrel
            by_cases hkt : k < 4
            · have hki : (k : Int) < 4 := by omega
              have c0 := b0.byteAt (i := i * 4 + k) (by omega)
              have c1 := b1.byteAt (i := k * 4 + j) (by omega)
              have c3 := b3.byteAt (i := i * 4 + j) (by omega)
              rw [upd_same] at c3
              have f3 := b3.frozen (i * 4 + j)
              have hst : mtAcc m a b i j (k + 1) = mtAcc m a b i j k ^^^ UInt8.ofNat (timesI m (a (i * 4 + k)).toNat (b (k * 4 + j)).toNat) := rfl
              have ho := l01Times m (a (i * 4 + k)).toNat (b (k * 4 + j)).toNat h1 h2 (a (i * 4 + k)).toNat_lt (b (k * 4 + j)).toNat_lt
              have htl := timesI_lt (b := (b (k * 4 + j)).toNat) h1 h2 (a (i * 4 + k)).toNat_lt
              obtain ⟨t, ht⟩ : ∃ t, timesI m (a (i * 4 + k)).toNat (b (k * 4 + j)).toNat = t := ⟨_, rfl⟩
              rw [ht] at ho hst htl
              obtain ⟨A, hA⟩ : ∃ A, mtAcc m a b i j k = A := ⟨_, rfl⟩
              rw [hA] at hst c3 b3
              have ex := b_xor A (UInt8.ofNat t)
              rw [toNat_ofNat_lt htl] at ex
              obtain ⟨E, hE⟩ : ∃ E, A ^^^ UInt8.ofNat t = E := ⟨_, rfl⟩
              rw [hE] at ex hst
              have HO := Lib.hid ho
              clear ho ht hA hE
              have H0 := Lib.hid b0; clear b0; have H1 := Lib.hid b1; clear b1; have H2 := Lib.hid b2; clear b2; have H3 := Lib.hid b3; clear b3; have Hb := Lib.hid hb; clear hb; have Hst := Lib.hid hst; clear hst
              go_upto_region 11 with fail
              go_still_tail 22, rfl
              still_call (HO.out _)
              repeat still_step
              refine wpStill_nil ?_
              change wpList _ _ _ _ _ wr.drew
              go_wp2
              go_roundw
              case rel => exact ⟨k + 1, by omega, by go_num, H0.out.farC (by omega) _, H1.out.farC (by omega) _, H2.out.farC (by omega) _, (H3.out.bytePut (i * 4 + j) E).eq_ (by rw [Hst.out]; exact upd_upd _ _ _ _), (Hb.out.setCell (p := ⟨w.heap.size + 1 + 1 + 1, i * 4 + j, none⟩) (by show _ ≤ _ + 1 + 1 + 1; omega) _).drew⟩
              case measure => simp [intOf]; omega
            · obtain rfl : k = 4 := by omega
              have b3' := b3.eq_ (mt_end m a b i j hjt)
              clear b3
              have H0 := Lib.hid b0; clear b0; have H1 := Lib.hid b1; clear b1; have H2 := Lib.hid b2; clear b2; have H3' := Lib.hid b3'; clear b3'; have Hb := Lib.hid hb; clear hb
              go_wp2
              go_roundw
              case rel => exact ⟨j + 1, by omega, by go_num, H0.out, H1.out, H2.out, H3'.out, Hb.out⟩
              case measure => simp [intOf]; omega
        · obtain rfl : j = 4 := by omega
          have b3' := b3.eq_ (byteRow_congr (c := mtF m a b ((i + 1) * 4)) fun q _ => by rw [show (i + 1) * 4 = i * 4 + 4 by omega])
          clear b3
          have H0 := Lib.hid b0; clear b0; have H1 := Lib.hid b1; clear b1; have H2 := Lib.hid b2; clear b2; have H3' := Lib.hid b3'; clear b3'; have Hb := Lib.hid hb; clear hb
          go_wp2
          go_roundw
          case rel => exact ⟨i + 1, by omega, by go_num, H0.out, H1.out, H2.out, H3'.out, Hb.out⟩
          case measure => simp [intOf]; omega
    · obtain rfl : i = 4 := by omega
      have b3' := b3.eq_ (byteRow_congr (c := mtV m a b) fun q hq => by unfold mtF; rw [if_pos (by omega)])
      clear b3
      have H0 := Lib.hid b0; clear b0; have H1 := Lib.hid b1; clear b1; have H2 := Lib.hid b2; clear b2; have H3' := Lib.hid b3'; clear b3'; have Hb := Lib.hid hb; clear hb
      go_wp2_with (first | (refine wpList_loadR rfl _ _ rfl _ rfl H3'.out Try.underlying30 rfl size30 (byteRow_size _ _) ?_) | (refine wpList_storeR rfl _ _ _ rfl _ _ rfl rfl H2.out size30 (byteRow_size _ _) (byteRow_size _ _) (byteRow_all _ _) ?_))
      refine bodyPost_ret (results_cellB rfl _ _ _ rfl (H2.out.setRow _) Try.underlying30 rfl size30 (byteRow_size _ _)) rfl ⟨rfl, below_row Hb.out (by omega) _⟩
set_option maxRecDepth 100000 in
set_option maxHeartbeats 1600000 in
theorem fTimesMatrix (m : Nat) (a b : Nat → UInt8) (h1 : 256 ≤ m) (h2 : m < 512) (w : World) :
    Calls Try.prog 55 #[.int .i64 (m : Int), .agg (byteRow 16 a), .agg (byteRow 16 b)] w fun e w' => e = .returned (.agg (byteRow 16 (mtV m a b))) ∧ Below w.heap.size w w' := by
  go_enter Try.func55, Try.ntmps55
  go_wp2_with (first | (refine wpList_buildZ rfl _ rfl builtMatT ?_) | (refine wpList_storeR rfl _ _ _ rfl _ _ rfl rfl ((Blk.newAt (by simp)).eq_ zero16) size30 (byteRow_size _ _) (byteRow_size _ _) (byteRow_all _ _) ?_))
  go_loopw [12] (fun i wr => ∃ i0 : Nat, i0 ≤ 4 ∧ i = .int .i64 i0 ∧ Blk wr w.heap.size 30 (byteRow 16 a) ∧ Blk wr (w.heap.size + 1) 30 (byteRow 16 b) ∧ Blk wr (w.heap.size + 1 + 1) 30 (byteRow 16 (fun _ => 0)) ∧ Blk wr (w.heap.size + 1 + 1 + 1) 30 (byteRow 16 (mtF m a b (i0 * 4))) ∧ Below w.heap.size w wr) (fun i _ => 4 - (intOf i).toNat)
  case atStart =>
    rw [zero16]
    exact ⟨0, by omega, rfl, ((((Blk.new w _ _).alloc _).alloc _).alloc _).rowFar (by omega) _, (((Blk.newAt (w := w.alloc _) (by simp)).alloc _).alloc _).rowFar (by omega) _, ((Blk.newAt (w := (w.alloc _).alloc _) (by simp)).alloc _).rowFar (by omega) _, ((Blk.newAt (w := ((w.alloc _).alloc _).alloc _) (by simp)).setRow _).eq_ (byteRow_none _ (mtV m a b) _), below_row (((((Below.refl _ _).alloc (by omega) _).alloc (by simp) _).alloc (by simp; omega) _).alloc (by simp; omega) _) (by omega) _⟩
  case round =>
    obtain ⟨i, hi, rfl, b0, b1, b2, b3, hb⟩ := hrel
    by_cases hit : i < 4
    · have hii : (i : Int) < 4 := by omega
      have H0 := Lib.hid b0; clear b0; have H1 := Lib.hid b1; clear b1; have H2 := Lib.hid b2; clear b2; have H3 := Lib.hid b3; clear b3; have Hb := Lib.hid hb; clear hb
      obtain ⟨wo, rfl⟩ : ∃ wo : World, wo = wr := ⟨_, rfl⟩
      go_wp2
      go_loopw [15] (fun j wr => ∃ j0 : Nat, j0 ≤ 4 ∧ j = .int .i64 j0 ∧ Blk wr w.heap.size 30 (byteRow 16 a) ∧ Blk wr (w.heap.size + 1) 30 (byteRow 16 b) ∧ Blk wr (w.heap.size + 1 + 1) 30 (byteRow 16 (fun _ => 0)) ∧ Blk wr (w.heap.size + 1 + 1 + 1) 30 (byteRow 16 (mtF m a b (i * 4 + j0))) ∧ Below w.heap.size w wr) (fun j _ => 4 - (intOf j).toNat)
      case atStart => exact ⟨0, by omega, rfl, H0.out, H1.out, H2.out, H3.out, Hb.out⟩
      case round =>
        clear H0 H1 H2 H3 Hb
        obtain ⟨j, hj, rfl, b0, b1, b2, b3, hb⟩ := hrel
        by_cases hjt : j < 4
        · have hji : (j : Int) < 4 := by omega
          have H0 := Lib.hid b0; clear b0; have H1 := Lib.hid b1; clear b1; have H2 := Lib.hid b2; clear b2; have H3 := Lib.hid b3; clear b3; have Hb := Lib.hid hb; clear hb
          obtain ⟨wo, rfl⟩ : ∃ wo : World, wo = wr := ⟨_, rfl⟩
          go_wp2
          go_loopw [18] (fun k wr => ∃ k0 : Nat, k0 ≤ 4 ∧ k = .int .i64 k0 ∧ Blk wr w.heap.size 30 (byteRow 16 a) ∧ Blk wr (w.heap.size + 1) 30 (byteRow 16 b) ∧ Blk wr (w.heap.size + 1 + 1) 30 (byteRow 16 (fun _ => 0)) ∧ Blk wr (w.heap.size + 1 + 1 + 1) 30 (byteRow 16 (upd (mtF m a b (i * 4 + j)) (i * 4 + j) (mtAcc m a b i j k0))) ∧ Below w.heap.size w wr) (fun k _ => 4 - (intOf k).toNat)
          case atStart => exact ⟨0, by omega, rfl, H0.out, H1.out, H2.out, H3.out.eq_ (mt_start m a b i j), Hb.out⟩
          case round =>
            clear H0 H1 H2 H3 Hb
            obtain ⟨k, hk, rfl, b0, b1, b2, b3, hb⟩ := hrel
            by_cases hkt : k < 4
            · have hki : (k : Int) < 4 := by omega
              have c0 := b0.byteAt (i := i * 4 + k) (by omega)
              have c1 := b1.byteAt (i := k * 4 + j) (by omega)
              have c3 := b3.byteAt (i := i * 4 + j) (by omega)
              rw [upd_same] at c3
              have f3 := b3.frozen (i * 4 + j)
              have hst : mtAcc m a b i j (k + 1) = mtAcc m a b i j k ^^^ UInt8.ofNat (timesI m (a (i * 4 + k)).toNat (b (k * 4 + j)).toNat) := rfl
              have ho := fTimes m (a (i * 4 + k)).toNat (b (k * 4 + j)).toNat h1 h2 (a (i * 4 + k)).toNat_lt (b (k * 4 + j)).toNat_lt
              have htl := timesI_lt (b := (b (k * 4 + j)).toNat) h1 h2 (a (i * 4 + k)).toNat_lt
              obtain ⟨t, ht⟩ : ∃ t, timesI m (a (i * 4 + k)).toNat (b (k * 4 + j)).toNat = t := ⟨_, rfl⟩
              rw [ht] at ho hst htl
              obtain ⟨A, hA⟩ : ∃ A, mtAcc m a b i j k = A := ⟨_, rfl⟩
              rw [hA] at hst c3 b3
              have ex := b_xor A (UInt8.ofNat t)
              rw [toNat_ofNat_lt htl] at ex
              obtain ⟨E, hE⟩ : ∃ E, A ^^^ UInt8.ofNat t = E := ⟨_, rfl⟩
              rw [hE] at ex hst
              have HO := Lib.hid ho
              clear ho ht hA hE
              have H0 := Lib.hid b0; clear b0; have H1 := Lib.hid b1; clear b1; have H2 := Lib.hid b2; clear b2; have H3 := Lib.hid b3; clear b3; have Hb := Lib.hid hb; clear hb; have Hst := Lib.hid hst; clear hst
              go_upto_region 11 with fail
              go_still_tail 20, rfl
              still_call (HO.out _)
              repeat still_step
              refine wpStill_nil ?_
              change wpList _ _ _ _ _ wr.drew
              go_wp2
              go_roundw
              case rel => exact ⟨k + 1, by omega, by go_num, H0.out.farC (by omega) _, H1.out.farC (by omega) _, H2.out.farC (by omega) _, (H3.out.bytePut (i * 4 + j) E).eq_ (by rw [Hst.out]; exact upd_upd _ _ _ _), (Hb.out.setCell (p := ⟨w.heap.size + 1 + 1 + 1, i * 4 + j, none⟩) (by show _ ≤ _ + 1 + 1 + 1; omega) _).drew⟩
              case measure => simp [intOf]; omega
            · obtain rfl : k = 4 := by omega
              have b3' := b3.eq_ (mt_end m a b i j hjt)
              clear b3
              have H0 := Lib.hid b0; clear b0; have H1 := Lib.hid b1; clear b1; have H2 := Lib.hid b2; clear b2; have H3' := Lib.hid b3'; clear b3'; have Hb := Lib.hid hb; clear hb
              go_wp2
              go_roundw
              case rel => exact ⟨j + 1, by omega, by go_num, H0.out, H1.out, H2.out, H3'.out, Hb.out⟩
              case measure => simp [intOf]; omega
        · obtain rfl : j = 4 := by omega
          have b3' := b3.eq_ (byteRow_congr (c := mtF m a b ((i + 1) * 4)) fun q _ => by rw [show (i + 1) * 4 = i * 4 + 4 by omega])
          clear b3
          have H0 := Lib.hid b0; clear b0; have H1 := Lib.hid b1; clear b1; have H2 := Lib.hid b2; clear b2; have H3' := Lib.hid b3'; clear b3'; have Hb := Lib.hid hb; clear hb
          go_wp2
          go_roundw
          case rel => exact ⟨i + 1, by omega, by go_num, H0.out, H1.out, H2.out, H3'.out, Hb.out⟩
          case measure => simp [intOf]; omega
    · obtain rfl : i = 4 := by omega
      have b3' := b3.eq_ (byteRow_congr (c := mtV m a b) fun q hq => by unfold mtF; rw [if_pos (by omega)])
      clear b3
      have H0 := Lib.hid b0; clear b0; have H1 := Lib.hid b1; clear b1; have H2 := Lib.hid b2; clear b2; have H3' := Lib.hid b3'; clear b3'; have Hb := Lib.hid hb; clear hb
      go_wp2_with (first | (refine wpList_loadR rfl _ _ rfl _ rfl H3'.out Try.underlying30 rfl size30 (byteRow_size _ _) ?_) | (refine wpList_storeR rfl _ _ _ rfl _ _ rfl rfl H2.out size30 (byteRow_size _ _) (byteRow_size _ _) (byteRow_all _ _) ?_))
      refine bodyPost_ret (results_cellB rfl _ _ _ rfl (H2.out.setRow _) Try.underlying30 rfl size30 (byteRow_size _ _)) rfl ⟨rfl, below_row Hb.out (by omega) _⟩
set_option maxRecDepth 100000 in
set_option maxHeartbeats 1600000 in
theorem specTimesMatrix (m : Int) (p q : Nat → UInt8) (w : World) :
    Calls Try.prog 16 #[.int .i64 m, .agg (byteRow 16 p), .agg (byteRow 16 q)] w fun e w' => e = .returned (.tuple #[.agg (byteRow 16 (tmV m p q)), .int .i64 (tmC m)]) ∧ Below w.heap.size w w' := by
  have k0 := Lib.hid (((Blk.new w 30 (byteRow 16 p)).alloc (.cells (byteRow 16 q) 30)).alloc (.cells #[.int .u8 0, .int .u8 0, .int .u8 0, .int .u8 0, .int .u8 0, .int .u8 0, .int .u8 0, .int .u8 0, .int .u8 0, .int .u8 0, .int .u8 0, .int .u8 0, .int .u8 0, .int .u8 0, .int .u8 0, .int .u8 0] 30))
  have k1 := Lib.hid ((Blk.newAt (t := 30) (cs := byteRow 16 q) (w := w.alloc (.cells (byteRow 16 p) 30)) (n := w.heap.size + 1) (by simp)).alloc (.cells #[.int .u8 0, .int .u8 0, .int .u8 0, .int .u8 0, .int .u8 0, .int .u8 0, .int .u8 0, .int .u8 0, .int .u8 0, .int .u8 0, .int .u8 0, .int .u8 0, .int .u8 0, .int .u8 0, .int .u8 0, .int .u8 0] 30))
  have k2 := Lib.hid ((Blk.newAt (t := 30) (cs := #[.int .u8 0, .int .u8 0, .int .u8 0, .int .u8 0, .int .u8 0, .int .u8 0, .int .u8 0, .int .u8 0, .int .u8 0, .int .u8 0, .int .u8 0, .int .u8 0, .int .u8 0, .int .u8 0, .int .u8 0, .int .u8 0]) (w := (w.alloc (.cells (byteRow 16 p) 30)).alloc (.cells (byteRow 16 q) 30)) (n := w.heap.size + 1 + 1) (by simp)).eq_ zero16)
  have l := Lib.hid ((((Below.refl w.heap.size w).alloc (Nat.le_refl _) (.cells (byteRow 16 p) 30)).alloc (by simp) (.cells (byteRow 16 q) 30)).alloc (by simp; omega) (.cells #[.int .u8 0, .int .u8 0, .int .u8 0, .int .u8 0, .int .u8 0, .int .u8 0, .int .u8 0, .int .u8 0, .int .u8 0, .int .u8 0, .int .u8 0, .int .u8 0, .int .u8 0, .int .u8 0, .int .u8 0, .int .u8 0] 30))
  cases hf : fieldB m with
  | false =>
    obtain ⟨hv, hc⟩ := tm_bad (a := p) (b := q) hf
    have c := l01Field m
    rw [hf] at c
    have C := Lib.hid c
    clear c hf
    have Hv := Lib.hid hv; clear hv; have Hc := Lib.hid hc; clear hc
    go_enter Try.func16, Try.ntmps16
    go_wp2_with (first | (go_at_call 49; refine (C.out _).mono ?_; rintro e wx ⟨rfl, rfl⟩) | (refine wpList_buildZ rfl _ rfl builtMatT ?_) | (refine wpList_storeR rfl _ _ _ rfl _ _ rfl rfl k2.out size30 (byteRow_size _ _) (byteRow_size _ _) (byteRow_all _ _) ?_))
    refine bodyPost_ret (results_cellB_tmp rfl _ _ _ rfl (k2.out.setRow _) Try.underlying30 rfl size30 (byteRow_size _ _)) rfl ⟨ret_pairT (by rw [Hv.out]) Hc.out.symm, below_row l.out (by omega) _⟩
  | true =>
    have c := l01Field m
    rw [hf] at c
    have C := Lib.hid c
    clear c
    obtain ⟨n, rfl, h1, h2, hF⟩ := fieldB_nat hf
    obtain ⟨hv, hc⟩ := tm_good (a := p) (b := q) hf
    clear hF hf
    have Hv := Lib.hid hv; clear hv; have Hc := Lib.hid hc; clear hc
    go_enter Try.func16, Try.ntmps16
    go_wp2_with (first | (go_at_call 49; refine (C.out _).mono ?_; rintro e wx ⟨rfl, rfl⟩) | (refine wpList_loadH rfl _ _ rfl _ rfl (by assumption) Try.underlying30 rfl size30 (byteRow_size _ _) ?_))
    refine (l03Times n p q h1 h2 _).mono ?_
    rintro e wx ⟨rfl, hb⟩
    have k2 := carryB k2 hb
    have l := carryS l hb
    clear hb
    go_wp2_with (refine wpList_storeR rfl _ _ _ rfl _ _ rfl rfl k2.out size30 (byteRow_size _ _) (byteRow_size _ _) (byteRow_all _ _) ?_)
    refine bodyPost_ret (results_cellB_tmp rfl _ _ _ rfl (k2.out.setRow _) Try.underlying30 rfl size30 (byteRow_size _ _)) rfl ⟨ret_pairT (by rw [Hv.out]) Hc.out.symm, below_row l.out (by omega) _⟩
set_option maxRecDepth 100000 in
set_option maxHeartbeats 1600000 in
theorem implTimesMatrix (m : Int) (p q : Nat → UInt8) (w : World) :
    Calls Try.prog 18 #[.int .i64 m, .agg (byteRow 16 p), .agg (byteRow 16 q)] w fun e w' => e = .returned (.tuple #[.agg (byteRow 16 (tmV m p q)), .int .i64 (tmC m)]) ∧ Below w.heap.size w w' := by
  have k0 := Lib.hid (((Blk.new w 30 (byteRow 16 p)).alloc (.cells (byteRow 16 q) 30)).alloc (.cells #[.int .u8 0, .int .u8 0, .int .u8 0, .int .u8 0, .int .u8 0, .int .u8 0, .int .u8 0, .int .u8 0, .int .u8 0, .int .u8 0, .int .u8 0, .int .u8 0, .int .u8 0, .int .u8 0, .int .u8 0, .int .u8 0] 30))
  have k1 := Lib.hid ((Blk.newAt (t := 30) (cs := byteRow 16 q) (w := w.alloc (.cells (byteRow 16 p) 30)) (n := w.heap.size + 1) (by simp)).alloc (.cells #[.int .u8 0, .int .u8 0, .int .u8 0, .int .u8 0, .int .u8 0, .int .u8 0, .int .u8 0, .int .u8 0, .int .u8 0, .int .u8 0, .int .u8 0, .int .u8 0, .int .u8 0, .int .u8 0, .int .u8 0, .int .u8 0] 30))
  have k2 := Lib.hid ((Blk.newAt (t := 30) (cs := #[.int .u8 0, .int .u8 0, .int .u8 0, .int .u8 0, .int .u8 0, .int .u8 0, .int .u8 0, .int .u8 0, .int .u8 0, .int .u8 0, .int .u8 0, .int .u8 0, .int .u8 0, .int .u8 0, .int .u8 0, .int .u8 0]) (w := (w.alloc (.cells (byteRow 16 p) 30)).alloc (.cells (byteRow 16 q) 30)) (n := w.heap.size + 1 + 1) (by simp)).eq_ zero16)
  have l := Lib.hid ((((Below.refl w.heap.size w).alloc (Nat.le_refl _) (.cells (byteRow 16 p) 30)).alloc (by simp) (.cells (byteRow 16 q) 30)).alloc (by simp; omega) (.cells #[.int .u8 0, .int .u8 0, .int .u8 0, .int .u8 0, .int .u8 0, .int .u8 0, .int .u8 0, .int .u8 0, .int .u8 0, .int .u8 0, .int .u8 0, .int .u8 0, .int .u8 0, .int .u8 0, .int .u8 0, .int .u8 0] 30))
  cases hf : fieldB m with
  | false =>
    obtain ⟨hv, hc⟩ := tm_bad (a := p) (b := q) hf
    have c := implIsField m
    rw [hf] at c
    have C := Lib.hid c
    clear c hf
    have Hv := Lib.hid hv; clear hv; have Hc := Lib.hid hc; clear hc
    go_enter Try.func18, Try.ntmps18
    go_wp2_with (first | (go_at_call 51; refine (C.out _).mono ?_; rintro e wx ⟨rfl, rfl⟩) | (refine wpList_buildZ rfl _ rfl builtMatT ?_) | (refine wpList_storeR rfl _ _ _ rfl _ _ rfl rfl k2.out size30 (byteRow_size _ _) (byteRow_size _ _) (byteRow_all _ _) ?_))
    refine bodyPost_ret (results_cellB_tmp rfl _ _ _ rfl (k2.out.setRow _) Try.underlying30 rfl size30 (byteRow_size _ _)) rfl ⟨ret_pairT (by rw [Hv.out]) Hc.out.symm, below_row l.out (by omega) _⟩
  | true =>
    have c := implIsField m
    rw [hf] at c
    have C := Lib.hid c
    clear c
    obtain ⟨n, rfl, h1, h2, hF⟩ := fieldB_nat hf
    obtain ⟨hv, hc⟩ := tm_good (a := p) (b := q) hf
    clear hF hf
    have Hv := Lib.hid hv; clear hv; have Hc := Lib.hid hc; clear hc
    go_enter Try.func18, Try.ntmps18
    go_wp2_with (first | (go_at_call 51; refine (C.out _).mono ?_; rintro e wx ⟨rfl, rfl⟩) | (refine wpList_loadH rfl _ _ rfl _ rfl (by assumption) Try.underlying30 rfl size30 (byteRow_size _ _) ?_))
    refine (fTimesMatrix n p q h1 h2 _).mono ?_
    rintro e wx ⟨rfl, hb⟩
    have k2 := carryB k2 hb
    have l := carryS l hb
    clear hb
    go_wp2_with (refine wpList_storeR rfl _ _ _ rfl _ _ rfl rfl k2.out size30 (byteRow_size _ _) (byteRow_size _ _) (byteRow_all _ _) ?_)
    refine bodyPost_ret (results_cellB_tmp rfl _ _ _ rfl (k2.out.setRow _) Try.underlying30 rfl size30 (byteRow_size _ _)) rfl ⟨ret_pairT (by rw [Hv.out]) Hc.out.symm, below_row l.out (by omega) _⟩
set_option maxRecDepth 100000 in
set_option maxHeartbeats 1600000 in
theorem fnExactTimesMatrix.walk (m : Int) (p q : Nat → UInt8) (w : World) (lo0 : -9223372036854775808 ≤ m) (hi0 : m ≤ 9223372036854775807) :
    Calls Try.prog 4 #[.int .i64 m, .agg (byteRow 16 p), .agg (byteRow 16 q)] w fun e w' => e = .returned (.bool true) ∧ Below w.heap.size w w' := by
  go_enter Try.func4, Try.ntmps4
  have k0 := Lib.hid ((Blk.new w 29 (byteRow 16 p)).alloc (.cells (byteRow 16 q) 29))
  have k1 := Lib.hid (Blk.newAt (t := 29) (cs := byteRow 16 q) (w := w.alloc (.cells (byteRow 16 p) 29)) (n := w.heap.size + 1) (by simp))
  have l := Lib.hid (((Below.refl w.heap.size w).alloc (Nat.le_refl _) (.cells (byteRow 16 p) 29)).alloc (by simp) (.cells (byteRow 16 q) 29))
  obtain ⟨wl, hwl⟩ : ∃ wl : World, wl = (w.alloc (.cells (byteRow 16 p) 29)).alloc (.cells (byteRow 16 q) 29) := ⟨_, rfl⟩
  go_upto_region 1 with fail
  rw [← hwl] at k0 k1 l ⊢
  clear hwl
  refine wp_region_draw rfl (fun i => #[.int .i64 m, .agg (byteRow 16 p), .agg (byteRow 16 p), .agg (byteRow 16 q), .agg (byteRow 16 q), .tuple #[.agg (byteRow 16 ((tmV m p q))), .int .i64 ((tmC m))], .tuple #[.agg (byteRow 16 ((tmV m p q))), .int .i64 ((tmC m))], .agg (byteRow 16 ((tmV m p q))), .int .i64 ((tmC m)), undef, undef, .int .i64 ((tmC m))].getD i undef) 9 10 7 30 (byteRow 16 (fun _ => 0)) (byteRow 16 ((tmV m p q))) (by kernel_rfl) (by kernel_rfl) (by kernel_rfl) rfl rfl rfl rfl (by decide) (by kernel_rfl) ?_ ?_ ?_ (fun g => [(some 12, .int .i64 m), (some 13, .agg (byteRow 16 p)), (some 14, .agg (byteRow 16 p)), (some 15, .agg (byteRow 16 q)), (some 16, .agg (byteRow 16 q)), (some 17, .tuple #[.agg (byteRow 16 ((tmV m p q))), .int .i64 ((tmC m))]), (some 11, .tuple #[.agg (byteRow 16 ((tmV m p q))), .int .i64 ((tmC m))]), (some 18, .agg (byteRow 16 ((tmV m p q)))), (some 19, .int .i64 ((tmC m))), (some 7, .pointer (some ⟨g, 0, none⟩)), (none, undef), (some 8, .int .i64 ((tmC m)))]) (fun g => rfl) ?_
  · refine each_cons (fun _ _ a wr hc => ?_) (each_cons (fun _ _ a wr hc => ?_) (each_cons (fun _ _ a wr hc => ?_) (each_cons (fun _ _ a wr hc => ?_) (each_cons (fun _ _ a wr hc => ?_) (each_cons (fun _ _ a wr hc => ?_) (each_cons (fun _ _ a wr hc => ?_) (each_cons (fun _ _ a wr hc => ?_) (each_cons (fun _ _ a wr hc => ?_) (each_cons (fun h _ => absurd rfl h) (each_cons (fun _ h => absurd rfl h) (each_cons (fun _ _ a wr hc => ?_) (each_nil))))))))))))
    · exact draw_move _ rfl (hc.old 0 (by kernel_rfl))
    · exact draw_load _ _ rfl _ (hc.old 4 (by kernel_rfl)) (k0.out.below hc.bel k0.out.lt) Try.underlying29 rfl size29 (byteRow_size _ _)
    · have e0 : a.eval (.tmp 13) = .agg (byteRow 16 p) := hc.new 13 1 (by kernel_rfl) (by kernel_rfl) (by decide); exact draw_call _ #[.tmp 13] _ rfl (by simp only [List.map_toArray, List.map_cons, List.map_nil, e0]) (fun w => by go_simp) (toMatrix _ _)
    · exact draw_load _ _ rfl _ (hc.old 5 (by kernel_rfl)) (k1.out.below hc.bel k1.out.lt) Try.underlying29 rfl size29 (byteRow_size _ _)
    · have e0 : a.eval (.tmp 15) = .agg (byteRow 16 q) := hc.new 15 3 (by kernel_rfl) (by kernel_rfl) (by decide); exact draw_call _ #[.tmp 15] _ rfl (by simp only [List.map_toArray, List.map_cons, List.map_nil, e0]) (fun w => by go_simp) (toMatrix _ _)
    · have e0 : a.eval (.tmp 12) = .int .i64 m := hc.new 12 0 (by kernel_rfl) (by kernel_rfl) (by decide); have e1 : a.eval (.tmp 14) = .agg (byteRow 16 p) := hc.new 14 2 (by kernel_rfl) (by kernel_rfl) (by decide); have e2 : a.eval (.tmp 16) = .agg (byteRow 16 q) := hc.new 16 4 (by kernel_rfl) (by kernel_rfl) (by decide); exact draw_call _ #[.tmp 12, .tmp 14, .tmp 16] _ rfl (by simp only [List.map_toArray, List.map_cons, List.map_nil, e0, e1, e2]) (fun w => by go_simp) (specTimesMatrix _ _ _ _)
    · exact draw_move _ rfl (hc.new 17 5 (by kernel_rfl) (by kernel_rfl) (by decide))
    · exact draw_extract _ _ rfl (hc.new 11 6 (by kernel_rfl) (by kernel_rfl) (by decide)) rfl
    · exact draw_extract _ _ rfl (hc.new 11 6 (by kernel_rfl) (by kernel_rfl) (by decide)) rfl
    · exact draw_assign _ rfl (hc.new 19 8 (by kernel_rfl) (by kernel_rfl) (by decide))
  · intro a wr
    go_simp
    rw [zero16]
  · intro a wr g hc hg hb
    exact draw_store _ _ _ rfl rfl g (show a.eval (.tmp 7) = _ from hg) (hc.new 18 7 (by kernel_rfl) (by kernel_rfl) (by decide)) hb size30 (byteRow_size _ _) (byteRow_size _ _) (byteRow_all _ _)
  · intro wx gskw hgs kw hb
    have k0 := carryB k0 hb
    have k1 := carryB k1 hb
    have l := carryS l hb
    have kw := Lib.hid kw
    clear hb hgs
    simp only [putAll, Act.put, List.setIfInBounds_toArray, List.set]
    go_upto_region 2 with fail
    refine wp_region_draw rfl (fun i => #[.int .i64 m, .agg (byteRow 16 p), .agg (byteRow 16 p), .agg (byteRow 16 q), .agg (byteRow 16 q), .tuple #[.agg (byteRow 16 ((tmV m p q))), .int .i64 ((tmC m))], .tuple #[.agg (byteRow 16 ((tmV m p q))), .int .i64 ((tmC m))], .agg (byteRow 16 ((tmV m p q))), .int .i64 ((tmC m)), undef, undef, .int .i64 ((tmC m))].getD i undef) 9 10 9 30 (byteRow 16 (fun _ => 0)) (byteRow 16 ((tmV m p q))) (by kernel_rfl) (by kernel_rfl) (by kernel_rfl) rfl rfl rfl rfl (by decide) (by kernel_rfl) ?_ ?_ ?_ (fun g => [(some 21, .int .i64 m), (some 22, .agg (byteRow 16 p)), (some 23, .agg (byteRow 16 p)), (some 24, .agg (byteRow 16 q)), (some 25, .agg (byteRow 16 q)), (some 26, .tuple #[.agg (byteRow 16 ((tmV m p q))), .int .i64 ((tmC m))]), (some 20, .tuple #[.agg (byteRow 16 ((tmV m p q))), .int .i64 ((tmC m))]), (some 27, .agg (byteRow 16 ((tmV m p q)))), (some 28, .int .i64 ((tmC m))), (some 9, .pointer (some ⟨g, 0, none⟩)), (none, undef), (some 10, .int .i64 ((tmC m)))]) (fun g => rfl) ?_
    · refine each_cons (fun _ _ a wr hc => ?_) (each_cons (fun _ _ a wr hc => ?_) (each_cons (fun _ _ a wr hc => ?_) (each_cons (fun _ _ a wr hc => ?_) (each_cons (fun _ _ a wr hc => ?_) (each_cons (fun _ _ a wr hc => ?_) (each_cons (fun _ _ a wr hc => ?_) (each_cons (fun _ _ a wr hc => ?_) (each_cons (fun _ _ a wr hc => ?_) (each_cons (fun h _ => absurd rfl h) (each_cons (fun _ h => absurd rfl h) (each_cons (fun _ _ a wr hc => ?_) (each_nil))))))))))))
      · exact draw_move _ rfl (hc.old 0 (by kernel_rfl))
      · exact draw_load _ _ rfl _ (hc.old 4 (by kernel_rfl)) (k0.out.below hc.bel k0.out.lt) Try.underlying29 rfl size29 (byteRow_size _ _)
      · have e0 : a.eval (.tmp 22) = .agg (byteRow 16 p) := hc.new 22 1 (by kernel_rfl) (by kernel_rfl) (by decide); exact draw_call _ #[.tmp 22] _ rfl (by simp only [List.map_toArray, List.map_cons, List.map_nil, e0]) (fun w => by go_simp) (toMatrix _ _)
      · exact draw_load _ _ rfl _ (hc.old 5 (by kernel_rfl)) (k1.out.below hc.bel k1.out.lt) Try.underlying29 rfl size29 (byteRow_size _ _)
      · have e0 : a.eval (.tmp 24) = .agg (byteRow 16 q) := hc.new 24 3 (by kernel_rfl) (by kernel_rfl) (by decide); exact draw_call _ #[.tmp 24] _ rfl (by simp only [List.map_toArray, List.map_cons, List.map_nil, e0]) (fun w => by go_simp) (toMatrix _ _)
      · have e0 : a.eval (.tmp 21) = .int .i64 m := hc.new 21 0 (by kernel_rfl) (by kernel_rfl) (by decide); have e1 : a.eval (.tmp 23) = .agg (byteRow 16 p) := hc.new 23 2 (by kernel_rfl) (by kernel_rfl) (by decide); have e2 : a.eval (.tmp 25) = .agg (byteRow 16 q) := hc.new 25 4 (by kernel_rfl) (by kernel_rfl) (by decide); exact draw_call _ #[.tmp 21, .tmp 23, .tmp 25] _ rfl (by simp only [List.map_toArray, List.map_cons, List.map_nil, e0, e1, e2]) (fun w => by go_simp) (implTimesMatrix _ _ _ _)
      · exact draw_move _ rfl (hc.new 26 5 (by kernel_rfl) (by kernel_rfl) (by decide))
      · exact draw_extract _ _ rfl (hc.new 20 6 (by kernel_rfl) (by kernel_rfl) (by decide)) rfl
      · exact draw_extract _ _ rfl (hc.new 20 6 (by kernel_rfl) (by kernel_rfl) (by decide)) rfl
      · exact draw_assign _ rfl (hc.new 28 8 (by kernel_rfl) (by kernel_rfl) (by decide))
    · intro a wr
      go_simp
      rw [zero16]
    · intro a wr g hc hg hb
      exact draw_store _ _ _ rfl rfl g (show a.eval (.tmp 9) = _ from hg) (hc.new 27 7 (by kernel_rfl) (by kernel_rfl) (by decide)) hb size30 (byteRow_size _ _) (byteRow_size _ _) (byteRow_all _ _)
    · intro wx gskg hgs kg hb
      have k0 := carryB k0 hb
      have k1 := carryB k1 hb
      have kw := carryB kw hb
      have l := carryS l hb
      have kg := Lib.hid kg
      clear hb hgs
      simp only [putAll, Act.put, List.setIfInBounds_toArray, List.set]
      go_wp2_with (refine wpList_loadH rfl _ _ rfl _ rfl (by assumption) Try.underlying30 rfl size30 (byteRow_size _ _) ?_)
      refine (eqMatrix _ _).mono ?_
      rintro e wx ⟨rfl, hb⟩
      have l := carryS l hb
      clear hb
      go_wp2_with fail
      go_ret
      exact ⟨rfl, l.out⟩
end Go.Proofs.Ytnkfghoajpghkaa
