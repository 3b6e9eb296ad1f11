/- Contracts: boxes of rotations, by the program and by the reference, and the walk of the law. No condition. -/
import Derived.Test.YtphfiekhpicpgaaRows
import Derived.Test.YtphfiekhpicpgaaLaws
import Derived.Test.YtphfiekhpicpgaaPerm
import Derived.Test.YtphfiekhpicpgaaBox
import Derived.Test.YtphfiekhpicpgaaRange
import Derived.Test.YtphfiekhpicpgaaSliIn
import Derived.Test.YtphfiekhpicpgaaTurn
import Derived.StillTailTactics
import Derived.Deep.DeepCutAuto
set_option linter.unusedVariables false
namespace Go.Proofs.Ytphfiekhpicpgaa
open Go.RowKit Plain
def rotTo (f : Nat → Int) (c x : UInt8) : Nat → UInt8
  | 0 => c
  | k + 1 => rotTo f c x k ^^^ turnV x (f k).toNat
def rotBx (f : Nat → Int) (n : Nat) (c : UInt8) : Nat → UInt8 := fun x => rotTo f c (UInt8.ofNat x) n
def rotB (f : Nat → Int) : Nat → Bool
  | 0 => true
  | k + 1 => rotB f k && (inB (f k) 0 7 && (decide (k = 0) || decide (f (k - 1) < f k)))
def rotGood (n : Nat) (f : Nat → Int) : Bool := (decide (1 ≤ n) && decide (n ≤ 8)) && rotB f n
def rotV (n : Nat) (f : Nat → Int) (c : UInt8) : Nat → UInt8 := if rotGood n f = true then rotBx f n c else fun _ => 0
def rotC (n : Nat) (f : Nat → Int) : Int := if rotGood n f = true then 0 else 2
theorem rot_bad {n : Nat} {f : Nat → Int} (c : UInt8) (h : rotGood n f = false) : rotV n f c = (fun _ => 0) ∧ rotC n f = 2 := by
  unfold rotV rotC
  rw [h]
  exact ⟨rfl, rfl⟩
theorem rot_good {n : Nat} {f : Nat → Int} (c : UInt8) (h : rotGood n f = true) : rotV n f c = rotBx f n c ∧ rotC n f = 0 := by
  unfold rotV rotC
  rw [h]
  exact ⟨rfl, rfl⟩
theorem rotB_false {f : Nat → Int} {k : Nat} (h : rotB f k = false) : ∀ n, k ≤ n → rotB f n = false
  | 0, hn => by
    obtain rfl : k = 0 := by omega
    exact h
  | n + 1, hn => by
    by_cases he : k = n + 1
    · subst he; exact h
    · unfold rotB
      rw [rotB_false h n (by omega), Bool.false_and]
theorem good_false {n k : Nat} {f : Nat → Int} (h : rotB f k = false) (hk : k ≤ n) : rotGood n f = false := by
  unfold rotGood
  rw [rotB_false h n hk, Bool.and_false]
theorem good_size {n : Nat} {f : Nat → Int} (h : ¬ (1 ≤ n ∧ n ≤ 8)) : rotGood n f = false := by
  unfold rotGood
  have : (decide (1 ≤ n) && decide (n ≤ 8)) = false := by
    rw [Bool.and_eq_false_iff, decide_eq_false_iff_not, decide_eq_false_iff_not]
    omega
  rw [this, Bool.false_and]
theorem good_true {n : Nat} {f : Nat → Int} (h1 : 1 ≤ n) (h2 : n ≤ 8) (h : rotB f n = true) : rotGood n f = true := by
  unfold rotGood
  rw [h, decide_eq_true h1, decide_eq_true h2]
  rfl
theorem rotB_in {f : Nat → Int} : ∀ {n : Nat}, rotB f n = true → ∀ i, i < n → 0 ≤ f i ∧ f i ≤ 7
  | 0, _, i, hi => absurd hi (Nat.not_lt_zero i)
  | n + 1, h, i, hi => by
    unfold rotB at h
    rw [Bool.and_eq_true, Bool.and_eq_true] at h
    by_cases he : i = n
    · subst he
      have := h.2.1
      unfold inB at this
      simp only [Bool.and_eq_true, decide_eq_true_eq] at this
      omega
    · exact rotB_in h.1 i (by omega)
theorem ret_pairR {a b : Array Value} {n m : Int} (h : a = b) (h2 : n = m) : Ending.returned (.tuple #[.agg a, .int .i64 n]) = .returned (.tuple #[.agg b, .int .i64 m]) := by rw [h, h2]
def CellsI (w : World) (g n : Nat) (f : Nat → Int) : Prop := g < w.heap.size ∧ ∀ i, i < n → w.cell? ⟨g, i, none⟩ = some (.int .i64 (f i))
theorem CellsI.below {w w' : World} {g n : Nat} {f : Nat → Int} (h : CellsI w g n f) (hb : Below w.heap.size w w') : CellsI w' g n f :=
  ⟨Nat.lt_of_lt_of_le h.1 hb.size, fun i hi => (hb.cell (p := ⟨g, i, none⟩) h.1).trans (h.2 i hi)⟩
theorem CellsI.up {w w' : World} {B g n : Nat} {f : Nat → Int} (h : CellsI w g n f) (hg : g < B) (hb : Below B w w') : CellsI w' g n f :=
  ⟨Nat.lt_of_lt_of_le h.1 hb.size, fun i hi => (hb.cell (p := ⟨g, i, none⟩) hg).trans (h.2 i hi)⟩
set_option maxRecDepth 100000 in
set_option maxHeartbeats 800000 in
theorem l02Rotations {g n cap : Nat} {f : Nat → Int} (c : UInt8) (w : World) (hc : CellsI w g n f) (hn : n ≤ 8) (hf : ∀ i, i < n → 0 ≤ f i ∧ f i ≤ 7) :
    Calls Try.prog 61 #[.slice (some ⟨g, 0, none⟩) n cap, .int .u8 (c.toNat : Int)] w fun e w' => e = .returned (.agg (byteRow 256 (rotBx f n c))) ∧ Below w.heap.size w w' := by
  have HC := Lib.hid hc
  have hg := hc.1
  clear hc
  go_enter Try.func61, Try.ntmps61
  go_wp2_with (first | (refine wpList_buildZ rfl _ rfl builtBox ?_) | (refine wpList_storeR rfl _ _ _ rfl _ _ rfl rfl ((Blk.newAt (by simp)).eq_ zeroBox) size27 (byteRow_size _ _) (byteRow_size _ _) (byteRow_all _ _) ?_))
  go_loopw [6] (fun i wr => ∃ k : Nat, k ≤ 256 ∧ i = .int .i64 k ∧ Blk wr w.heap.size 27 (byteRow 256 (fun _ => 0)) ∧ Blk wr (w.heap.size + 1) 27 (byteRow 256 (fun i => if i < k then rotBx f n c i else 0)) ∧ Below w.heap.size w wr)
    (fun i _ => 256 - (intOf i).toNat)
  case atStart =>
    rw [zeroBox]
    exact ⟨0, by omega, rfl, ((Blk.newAt (w := w) (by simp)).alloc _).rowFar (by omega) _, ((Blk.newAt (w := w.alloc _) (by simp)).setRow _).eq_ (byteRow_none _ _ _), below_row (((Below.refl _ _).alloc (by omega) _).alloc (by simp) _) (by omega) _⟩
  case round =>
    obtain ⟨x, hx, rfl, b0, b1, hb⟩ := hrel
    by_cases hlt : x < 256
    · have hxi : (x : Int) < 256 := by omega
      have hcw := HC.out.up hg hb
      have c1 := b1.byteAt hlt
      have f1 := b1.frozen x
      have H0 := Lib.hid b0; clear b0; have H1 := Lib.hid b1; clear b1; have Hb := Lib.hid hb; clear hb; have Hcw := Lib.hid hcw; clear hcw
      obtain ⟨wp, rfl⟩ : ∃ wp : World, wp = wr := ⟨_, rfl⟩
      go_wp2
      go_loop [8, 7] (fun i v => ∃ q : Nat, q ≤ n ∧ i = .int .i64 q ∧ v = .int .u8 ((rotTo f c (UInt8.ofNat x) q).toNat : Int)) (fun i _ => n - (intOf i).toNat)
      case atStart => exact ⟨0, by omega, rfl, rfl⟩
      case round =>
        obtain ⟨q, hq, rfl, rfl⟩ := hrel
        by_cases hqt : q < n
        · have hqi : (q : Int) < (n : Int) := by omega
          obtain ⟨k, hk⟩ : ∃ k : Nat, f q = k := ⟨(f q).toNat, by have := hf q hqt; omega⟩
          have hk8 : k < 8 := by have := hf q hqt; omega
          have c0 := Hcw.out.2 q hqt
          rw [hk] at c0
          have ho := l02Turn (UInt8.ofNat x) k hk8
          rw [toNat_ofNat_lt hlt] at ho
          have hst : rotTo f c (UInt8.ofNat x) (q + 1) = rotTo f c (UInt8.ofNat x) q ^^^ turnV (UInt8.ofNat x) k := by
            show rotTo f c (UInt8.ofNat x) q ^^^ turnV (UInt8.ofNat x) (f q).toNat = _
            rw [hk]
            rfl
          obtain ⟨a, ha⟩ : ∃ a, rotTo f c (UInt8.ofNat x) q = a := ⟨_, rfl⟩
          obtain ⟨d, hd⟩ : ∃ d, turnV (UInt8.ofNat x) k = d := ⟨_, rfl⟩
          rw [hd] at ho
          rw [ha, hd] at hst
          rw [ha]
          have ex := b_xor a d
          have HO := Lib.hid ho
          clear ho hk ha hd
          have Hst := Lib.hid hst; clear hst
          go_wp2_with (go_at_call 88; refine (HO.out _).mono ?_; rintro e wx ⟨rfl, rfl⟩)
          go_round
          case rel => exact ⟨q + 1, by omega, by go_num, by rw [Hst.out, UInt8.toNat_xor]⟩
          case measure => simp [intOf]; omega
        · obtain rfl : q = n := by omega
          have hv : rotTo f c (UInt8.ofNat x) q = rotBx f q c x := rfl
          rw [hv]
          clear hv
          go_wp2
          go_roundw
          case rel => exact ⟨x + 1, by omega, by go_num, H0.out.farC (by omega) _, (H1.out.bytePut x (rotBx f q c x)).eq_ (by rw [upd_fill]), Hb.out.setCell (p := ⟨w.heap.size + 1, x, none⟩) (by show _ ≤ _ + 1; omega) _⟩
          case measure => simp [intOf]; omega
    · obtain rfl : x = 256 := by omega
      have b1' := b1.eq_ (byteRow_full (rotBx f n c) _ hlt)
      clear b1
      have H0 := Lib.hid b0; clear b0; have H1' := Lib.hid b1'; clear b1'; have Hb := Lib.hid hb; clear hb
      go_wp2_with (first | (refine wpList_loadR rfl _ _ rfl _ rfl H1'.out Try.underlying27 rfl size27 (byteRow_size _ _) ?_) | (refine wpList_storeR rfl _ _ _ rfl _ _ rfl rfl H0.out size27 (byteRow_size _ _) (byteRow_size _ _) (byteRow_all _ _) ?_))
      refine bodyPost_ret (results_cellB rfl _ _ _ rfl (H0.out.setRow _) Try.underlying27 rfl size27 (byteRow_size _ _)) rfl ⟨rfl, below_row Hb.out (by omega) _⟩
theorem lengthI (a : Option Addr) (n cap : Nat) (w : World) :
    Calls Try.prog 59 #[.slice a n cap] w fun e w' => e = .returned (.int .i64 (n : Int)) ∧ w' = w := by
  go_enter Try.func59, Try.ntmps59
  go_wp2
  go_ret
  exact ⟨rfl, rfl⟩
set_option maxRecDepth 100000 in
set_option maxHeartbeats 1600000 in
theorem specRotationBox {B n : Nat} {v : Value} {f : Nat → Int} (c : UInt8) (w : World) (hrow : RowF w B 2 v n (lng f)) :
    Calls Try.prog 12 #[v, .int .u8 (c.toNat : Int)] w fun e w' => e = .returned (.tuple #[.agg (byteRow 256 (rotV n f c)), .int .i64 (rotC n f)]) ∧ Below w.heap.size w w' := by
  have k1 := Lib.hid ((Blk.new w 27 Try.zeroCells27).eq_ zeroBox)
  have l := Lib.hid ((Below.refl w.heap.size w).alloc (Nat.le_refl _) (.cells Try.zeroCells27 27))
  obtain ⟨a, cap, rfl, hcap, _, hform⟩ := hrow.form
  by_cases hnn : ¬ (1 ≤ n ∧ n ≤ 8)
  · obtain ⟨hv, hc⟩ := rot_bad c (good_size (f := f) hnn)
    clear hform hrow hcap
    have Hv := Lib.hid hv; clear hv; have Hc := Lib.hid hc; clear hc
    by_cases h1 : n < 1
    · have e1 : (n : Int) < 1 := by omega
      clear hnn
      go_enter Try.func12, Try.ntmps12
      go_wp2_with (first | (refine wpList_buildZ rfl _ rfl builtBox ?_) | (refine wpList_storeR rfl _ _ _ rfl _ _ rfl rfl k1.out size27 (byteRow_size _ _) (byteRow_size _ _) (byteRow_all _ _) ?_))
      refine bodyPost_ret (results_cellB_tmp rfl _ _ _ rfl (k1.out.setRow _) Try.underlying27 rfl size27 (byteRow_size _ _)) rfl ⟨ret_pairR (by rw [Hv.out]) Hc.out.symm, below_row l.out (by omega) _⟩
    · have e1 : ¬ (n : Int) < 1 := by omega
      have e2 : (8 : Int) < (n : Int) := by omega
      clear hnn
      go_enter Try.func12, Try.ntmps12
      go_wp2_with (first | (refine wpList_buildZ rfl _ rfl builtBox ?_) | (refine wpList_storeR rfl _ _ _ rfl _ _ rfl rfl k1.out size27 (byteRow_size _ _) (byteRow_size _ _) (byteRow_all _ _) ?_))
      refine bodyPost_ret (results_cellB_tmp rfl _ _ _ rfl (k1.out.setRow _) Try.underlying27 rfl size27 (byteRow_size _ _)) rfl ⟨ret_pairR (by rw [Hv.out]) Hc.out.symm, below_row l.out (by omega) _⟩
  have hnn := Classical.not_not.1 hnn
  obtain ⟨g, rfl, hB, hg⟩ := hform.resolve_left (by omega)
  have hcw : CellsI (w.alloc (.cells Try.zeroCells27 27)) g n f := CellsI.up (B := w.heap.size) ⟨hg, fun i hi => hrow.at_ hi⟩ hg ((Below.refl w.heap.size w).alloc (Nat.le_refl _) _)
  have HC := Lib.hid hcw
  clear hrow hform hcw
  have e1 : ¬ (n : Int) < 1 := by omega
  have e2 : ¬ (8 : Int) < (n : Int) := by omega
  go_enter Try.func12, Try.ntmps12
  go_wp2_with fail
  go_loopw [6] (fun i wr => ∃ k : Nat, k ≤ n ∧ i = .int .i64 k ∧ rotB f k = true ∧ Blk wr w.heap.size 27 (byteRow 256 (fun _ => 0)) ∧ CellsI wr g n f ∧ Below w.heap.size w wr)
    (fun i _ => n - (intOf i).toNat)
  case atStart => exact ⟨0, by omega, rfl, rfl, k1.out, HC.out, l.out⟩
  case round =>
    clear k1 l HC
    obtain ⟨k, hk, rfl, hrb, b1, hcw, hb⟩ := hrel
    have k1 := Lib.hid b1
    have l := Lib.hid hb
    have HC := Lib.hid hcw
    clear b1 hb hcw
    by_cases hlt : k < n
    · have hki : (k : Int) < (n : Int) := by omega
      have c0 := HC.out.2 k hlt
      have D := fun w : World => l01In (f k) 0 7 w
      cases hin : inB (f k) 0 7 with
      | false =>
        rw [hin] at D
        have D := Lib.hid D
        have hno : rotB f (k + 1) = false := by unfold rotB; rw [hin, Bool.false_and, Bool.and_false]
        obtain ⟨hv, hc⟩ := rot_bad c (good_false hno (show k + 1 ≤ n by omega))
        clear hin hno hrb
        have Hv := Lib.hid hv; clear hv; have Hc := Lib.hid hc; clear hc
        go_upto_region 6 with fail
        go_quiet ((go_at_call 57; exact Calls.quiet_of_same (D.out _)))
        have k1 := Lib.hid (k1.out.drewN nq)
        have l := Lib.hid (below_drewN' l.out nq)
        go_wp2_with (first | (refine wpList_buildZ rfl _ rfl builtBox ?_) | (refine wpList_storeR rfl _ _ _ rfl _ _ rfl rfl k1.out size27 (byteRow_size _ _) (byteRow_size _ _) (byteRow_all _ _) ?_))
        refine bodyPost_ret (results_cellB_tmp rfl _ _ _ rfl (k1.out.setRow _) Try.underlying27 rfl size27 (byteRow_size _ _)) rfl ⟨ret_pairR (by rw [Hv.out]) Hc.out.symm, below_row l.out (by omega) _⟩
      | true =>
        rw [hin] at D
        have D := Lib.hid D
        by_cases h0 : k = 0
        · subst h0
          have hyes : rotB f (0 + 1) = true := by unfold rotB; rw [hin, hrb]; rfl
          clear hin hrb
          have Hyes := Lib.hid hyes; clear hyes
          go_upto_region 6 with fail
          go_quiet ((go_at_call 57; exact Calls.quiet_of_same (D.out _)))
          go_wp2
          go_roundw
          case rel => exact ⟨0 + 1, by omega, by go_num, Hyes.out, k1.out.drewN _, HC.out, below_drewN' l.out _⟩
          case measure => simp [intOf]; omega
        · have h0i : (0 : Int) < (k : Int) := by omega
          obtain ⟨j, hj⟩ : ∃ j, k - 1 = j := ⟨_, rfl⟩
          have h0n : 0 < k := by omega
          have hji : (k : Int) - 1 = (j : Int) := by omega
          have hjn : (j : Int) < (n : Int) := by omega
          have c1 := HC.out.2 j (by omega)
          by_cases hle : f k ≤ f j
          · have hno : rotB f (k + 1) = false := by unfold rotB; rw [hin, hj, decide_eq_false h0, decide_eq_false (show ¬ f j < f k by omega)]; simp
            obtain ⟨hv, hc⟩ := rot_bad c (good_false hno (show k + 1 ≤ n by omega))
            clear hin hno hrb hj
            have Hv := Lib.hid hv; clear hv; have Hc := Lib.hid hc; clear hc
            go_upto_region 6 with fail
            go_quiet ((go_at_call 57; exact Calls.quiet_of_same (D.out _)))
            have k1 := Lib.hid (k1.out.drewN nq)
            have l := Lib.hid (below_drewN' l.out nq)
            go_wp2_with (first | (refine wpList_buildZ rfl _ rfl builtBox ?_) | (refine wpList_storeR rfl _ _ _ rfl _ _ rfl rfl k1.out size27 (byteRow_size _ _) (byteRow_size _ _) (byteRow_all _ _) ?_))
            refine bodyPost_ret (results_cellB_tmp rfl _ _ _ rfl (k1.out.setRow _) Try.underlying27 rfl size27 (byteRow_size _ _)) rfl ⟨ret_pairR (by rw [Hv.out]) Hc.out.symm, below_row l.out (by omega) _⟩
          · have hyes : rotB f (k + 1) = true := by unfold rotB; rw [hin, hj, decide_eq_false h0, decide_eq_true (show f j < f k by omega), hrb]; rfl
            have HJ := Lib.hid hj
            clear hin hrb hj
            have Hyes := Lib.hid hyes; clear hyes
            go_upto_region 6 with fail
            go_quiet ((go_at_call 57; exact Calls.quiet_of_same (D.out _)))
            go_wp2
            go_roundw
            case rel => exact ⟨k + 1, by omega, by go_num, Hyes.out, k1.out.drewN _, HC.out, below_drewN' l.out _⟩
            case measure => simp [intOf]; omega
    · obtain rfl : k = n := by omega
      obtain ⟨hv, hc⟩ := rot_good c (good_true hnn.1 hnn.2 hrb)
      have hf := rotB_in hrb
      have Hv := Lib.hid hv; clear hv; have Hc := Lib.hid hc; clear hc
      have R := Lib.hid fun (w : World) (h : CellsI w g k f) => l02Rotations (cap := cap) c w h hnn.2 hf
      clear hf hrb
      go_wp2_with fail
      refine (R.out _ HC.out).mono ?_
      rintro e wx ⟨rfl, hb⟩
      have k1 := carryB k1 hb
      have l := carryS l hb
      clear hb
      go_wp2_with (refine wpList_storeR rfl _ _ _ rfl _ _ rfl rfl k1.out size27 (byteRow_size _ _) (byteRow_size _ _) (byteRow_all _ _) ?_)
      refine bodyPost_ret (results_cellB_tmp rfl _ _ _ rfl (k1.out.setRow _) Try.underlying27 rfl size27 (byteRow_size _ _)) rfl ⟨ret_pairR (by rw [Hv.out]) Hc.out.symm, below_row l.out (by omega) _⟩
set_option maxRecDepth 100000 in
set_option maxHeartbeats 1600000 in
theorem implRotationBox {B n : Nat} {v : Value} {f : Nat → Int} (c : UInt8) (w : World) (hrow : RowF w B 2 v n (lng f)) :
    Calls Try.prog 11 #[v, .int .u8 (c.toNat : Int)] w fun e w' => e = .returned (.tuple #[.agg (byteRow 256 (rotV n f c)), .int .i64 (rotC n f)]) ∧ Below w.heap.size w w' := by
  have k1 := Lib.hid ((Blk.new w 27 Try.zeroCells27).eq_ zeroBox)
  have l := Lib.hid ((Below.refl w.heap.size w).alloc (Nat.le_refl _) (.cells Try.zeroCells27 27))
  obtain ⟨a, cap, rfl, hcap, _, hform⟩ := hrow.form
  by_cases hnn : ¬ (1 ≤ n ∧ n ≤ 8)
  · obtain ⟨hv, hc⟩ := rot_bad c (good_size (f := f) hnn)
    clear hform hrow hcap
    have Hv := Lib.hid hv; clear hv; have Hc := Lib.hid hc; clear hc
    have C := fun w : World => inRange (n : Int) 1 8 w
    have hb : inB (n : Int) 1 8 = false := by
      unfold inB
      rw [Bool.and_eq_false_iff, decide_eq_false_iff_not, decide_eq_false_iff_not]
      omega
    rw [hb] at C
    have C := Lib.hid C
    clear hnn hb
    go_enter Try.func11, Try.ntmps11
    go_wp2_with (first | (go_at_call 59; refine (lengthI _ _ _ _).mono ?_; rintro e wx ⟨rfl, rfl⟩) | (go_at_call 54; refine (C.out _).mono ?_; rintro e wx ⟨rfl, rfl⟩) | (refine wpList_buildZ rfl _ rfl builtBox ?_) | (refine wpList_storeR rfl _ _ _ rfl _ _ rfl rfl k1.out size27 (byteRow_size _ _) (byteRow_size _ _) (byteRow_all _ _) ?_))
    refine bodyPost_ret (results_cellB_tmp rfl _ _ _ rfl (k1.out.setRow _) Try.underlying27 rfl size27 (byteRow_size _ _)) rfl ⟨ret_pairR (by rw [Hv.out]) Hc.out.symm, below_row l.out (by omega) _⟩
  have hnn := Classical.not_not.1 hnn
  obtain ⟨g, rfl, hB, hg⟩ := hform.resolve_left (by omega)
  have hcw : CellsI (w.alloc (.cells Try.zeroCells27 27)) g n f := CellsI.up (B := w.heap.size) ⟨hg, fun i hi => hrow.at_ hi⟩ hg ((Below.refl w.heap.size w).alloc (Nat.le_refl _) _)
  have HC := Lib.hid hcw
  clear hrow hform hcw
  have C := fun w : World => inRange (n : Int) 1 8 w
  have hb : inB (n : Int) 1 8 = true := by
    unfold inB
    rw [Bool.and_eq_true, decide_eq_true_eq, decide_eq_true_eq]
    omega
  rw [hb] at C
  have C := Lib.hid C
  clear hb
  go_enter Try.func11, Try.ntmps11
  go_wp2_with (first | (go_at_call 59; refine (lengthI _ _ _ _).mono ?_; rintro e wx ⟨rfl, rfl⟩) | (go_at_call 54; refine (C.out _).mono ?_; rintro e wx ⟨rfl, rfl⟩))
  go_loopw [19] (fun i wr => ∃ k : Nat, k ≤ n ∧ i = .int .i64 k ∧ rotB f k = true ∧ Blk wr w.heap.size 27 (byteRow 256 (fun _ => 0)) ∧ CellsI wr g n f ∧ Below w.heap.size w wr)
    (fun i _ => n - (intOf i).toNat)
  case atStart => exact ⟨0, by omega, rfl, rfl, k1.out, HC.out, l.out⟩
  case round =>
    clear k1 l HC
    obtain ⟨k, hk, rfl, hrb, b1, hcw, hb⟩ := hrel
    have k1 := Lib.hid b1
    have l := Lib.hid hb
    have HC := Lib.hid hcw
    clear b1 hb hcw
    by_cases hlt : k < n
    · have hki : (k : Int) < (n : Int) := by omega
      have c0 := HC.out.2 k hlt
      have D := fun w : World => inRange (f k) 0 7 w
      cases hin : inB (f k) 0 7 with
      | false =>
        rw [hin] at D
        have D := Lib.hid D
        have hno : rotB f (k + 1) = false := by unfold rotB; rw [hin, Bool.false_and, Bool.and_false]
        obtain ⟨hv, hc⟩ := rot_bad c (good_false hno (show k + 1 ≤ n by omega))
        clear hin hno hrb
        have Hv := Lib.hid hv; clear hv; have Hc := Lib.hid hc; clear hc
        go_wp2_with (first | (go_at_call 54; refine (D.out _).mono ?_; rintro e wx ⟨rfl, rfl⟩) | (refine wpList_buildZ rfl _ rfl builtBox ?_) | (refine wpList_storeR rfl _ _ _ rfl _ _ rfl rfl k1.out size27 (byteRow_size _ _) (byteRow_size _ _) (byteRow_all _ _) ?_))
        refine bodyPost_ret (results_cellB_tmp rfl _ _ _ rfl (k1.out.setRow _) Try.underlying27 rfl size27 (byteRow_size _ _)) rfl ⟨ret_pairR (by rw [Hv.out]) Hc.out.symm, below_row l.out (by omega) _⟩
      | true =>
        rw [hin] at D
        have D := Lib.hid D
        by_cases h0 : k = 0
        · subst h0
          have hyes : rotB f (0 + 1) = true := by unfold rotB; rw [hin, hrb]; rfl
          clear hin hrb
          have Hyes := Lib.hid hyes; clear hyes
          go_wp2_with (go_at_call 54; refine (D.out _).mono ?_; rintro e wx ⟨rfl, rfl⟩)
          go_roundw
          case rel => exact ⟨0 + 1, by omega, by go_num, Hyes.out, k1.out, HC.out, l.out⟩
          case measure => simp [intOf]; omega
        · have h0i : (0 : Int) < (k : Int) := by omega
          obtain ⟨j, hj⟩ : ∃ j, k - 1 = j := ⟨_, rfl⟩
          have h0n : 0 < k := by omega
          have hji : (k : Int) - 1 = (j : Int) := by omega
          have hjn : (j : Int) < (n : Int) := by omega
          have c1 := HC.out.2 j (by omega)
          by_cases hle : f k ≤ f j
          · have hno : rotB f (k + 1) = false := by unfold rotB; rw [hin, hj, decide_eq_false h0, decide_eq_false (show ¬ f j < f k by omega)]; simp
            obtain ⟨hv, hc⟩ := rot_bad c (good_false hno (show k + 1 ≤ n by omega))
            clear hin hno hrb hj
            have Hv := Lib.hid hv; clear hv; have Hc := Lib.hid hc; clear hc
            go_wp2_with (first | (go_at_call 54; refine (D.out _).mono ?_; rintro e wx ⟨rfl, rfl⟩) | (refine wpList_buildZ rfl _ rfl builtBox ?_) | (refine wpList_storeR rfl _ _ _ rfl _ _ rfl rfl k1.out size27 (byteRow_size _ _) (byteRow_size _ _) (byteRow_all _ _) ?_))
            refine bodyPost_ret (results_cellB_tmp rfl _ _ _ rfl (k1.out.setRow _) Try.underlying27 rfl size27 (byteRow_size _ _)) rfl ⟨ret_pairR (by rw [Hv.out]) Hc.out.symm, below_row l.out (by omega) _⟩
          · have hyes : rotB f (k + 1) = true := by unfold rotB; rw [hin, hj, decide_eq_false h0, decide_eq_true (show f j < f k by omega), hrb]; rfl
            have HJ := Lib.hid hj
            clear hin hrb hj
            have Hyes := Lib.hid hyes; clear hyes
            go_wp2_with (go_at_call 54; refine (D.out _).mono ?_; rintro e wx ⟨rfl, rfl⟩)
            go_roundw
            case rel => exact ⟨k + 1, by omega, by go_num, Hyes.out, k1.out, HC.out, l.out⟩
            case measure => simp [intOf]; omega
    · obtain rfl : k = n := by omega
      obtain ⟨hv, hc⟩ := rot_good c (good_true hnn.1 hnn.2 hrb)
      have hf := rotB_in hrb
      have Hv := Lib.hid hv; clear hv; have Hc := Lib.hid hc; clear hc
      have hgk := k1.out.lt
      obtain ⟨ws, hws⟩ : ∃ ws : World, ws = wr := ⟨_, rfl⟩
      subst hws
      go_wp2_with (first | (refine wpList_buildZ rfl _ rfl builtBox ?_) | (refine wpList_storeNew rfl _ _ _ rfl _ rfl rfl zeroBox size27 (byteRow_size _ _) (byteRow_size _ _) (byteRow_all _ _) ?_; intro wy kr hb; have k1 := carryB k1 hb; have HC := Lib.hid (HC.out.below hb); have l := carryS l hb; have kr := Lib.hid kr; clear hb))
      try simp only [Act.put]
      go_loopw [43] (fun i wr => ∃ x : Nat, x ≤ 256 ∧ i = .int .i64 x ∧ Blk wr w.heap.size 27 (byteRow 256 (fun _ => 0)) ∧ Blk wr ws.heap.size 27 (byteRow 256 (fun i => if i < x then rotBx f k c i else 0)) ∧ CellsI wr g k f ∧ Below w.heap.size w wr)
        (fun i _ => 256 - (intOf i).toNat)
      case atStart => exact ⟨0, by omega, rfl, k1.out, kr.out.eq_ (byteRow_none _ _ _), HC.out, l.out⟩
      case round =>
        clear k1 l HC kr
        obtain ⟨x, hx, rfl, b0, b1, hcw, hb⟩ := hrel
        by_cases hlt : x < 256
        · have hxi : (x : Int) < 256 := by omega
          have c1 := b1.byteAt hlt
          have f1 := b1.frozen x
          have hcs : CellsI (wr.setCell ⟨ws.heap.size, x, none⟩ (.int .u8 (c.toNat : Int))) g k f := hcw.up hg ((Below.refl w.heap.size wr).setCell (p := ⟨ws.heap.size, x, none⟩) (show w.heap.size ≤ ws.heap.size by omega) _)
          clear hcw
          have H0 := Lib.hid b0; clear b0; have H1 := Lib.hid b1; clear b1; have Hb := Lib.hid hb; clear hb; have Hcs := Lib.hid hcs; clear hcs
          obtain ⟨wp, rfl⟩ : ∃ wp : World, wp = wr := ⟨_, rfl⟩
          go_wp2
          go_loopw [51] (fun i wq => ∃ q : Nat, q ≤ k ∧ i = .int .i64 q ∧ Blk wq w.heap.size 27 (byteRow 256 (fun _ => 0)) ∧ Blk wq ws.heap.size 27 (byteRow 256 (upd (fun i => if i < x then rotBx f k c i else 0) x (rotTo f c (UInt8.ofNat x) q))) ∧ CellsI wq g k f ∧ Below w.heap.size w wq)
            (fun i _ => k - (intOf i).toNat)
          case atStart => exact ⟨0, by omega, rfl, H0.out.farC (by omega) _, H1.out.bytePut x c, Hcs.out, Hb.out.setCell (p := ⟨ws.heap.size, x, none⟩) (show w.heap.size ≤ ws.heap.size by omega) _⟩
          case round =>
            clear H0 H1 Hcs Hb c1 f1
            obtain ⟨q, hq, rfl, b0, b1, hcw, hb⟩ := hrel
            by_cases hqt : q < k
            · have hqi : (q : Int) < (k : Int) := by omega
              obtain ⟨y, hy⟩ : ∃ y : Nat, f q = y := ⟨(f q).toNat, by have := hf q hqt; omega⟩
              have hy8 : y < 8 := by have := hf q hqt; omega
              have c0 := hcw.2 q hqt
              rw [hy] at c0
              have c1 := b1.byteAt hlt
              rw [upd_same] at c1
              have f1 := b1.frozen x
              have ho := rotateLeft8 (UInt8.ofNat x) y hy8
              rw [toNat_ofNat_lt hlt] at ho
              have hst : rotTo f c (UInt8.ofNat x) (q + 1) = rotTo f c (UInt8.ofNat x) q ^^^ turnV (UInt8.ofNat x) y := by
                show rotTo f c (UInt8.ofNat x) q ^^^ turnV (UInt8.ofNat x) (f q).toNat = _
                rw [hy]
                rfl
              obtain ⟨a, ha⟩ : ∃ a, rotTo f c (UInt8.ofNat x) q = a := ⟨_, rfl⟩
              obtain ⟨d, hd⟩ : ∃ d, turnV (UInt8.ofNat x) y = d := ⟨_, rfl⟩
              rw [hd] at ho
              rw [ha, hd] at hst
              rw [ha] at b1 c1
              have ex := b_xor a d
              have hcs : CellsI (wr.setCell ⟨ws.heap.size, x, none⟩ (.int .u8 ((a ^^^ d).toNat : Int))) g k f := hcw.up hg ((Below.refl w.heap.size wr).setCell (p := ⟨ws.heap.size, x, none⟩) (show w.heap.size ≤ ws.heap.size by omega) _)
              have HO := Lib.hid ho
              have hw8 : IntKind.u8.wrap (x : Int) = (x : Int) := by rw [IntKind.wrap_u8]; omega
              clear ho hy ha hd hcw
              have Hst := Lib.hid hst; clear hst; have H0 := Lib.hid b0; clear b0; have H1 := Lib.hid b1; clear b1; have Hb := Lib.hid hb; clear hb; have Hcs := Lib.hid hcs; clear hcs
              go_upto_region 17 with fail
              go_still_tail 9, rfl
              still_call (HO.out _)
              repeat still_step
              refine wpStill_nil ?_
              change wpList _ _ _ _ _ wr.drew
              go_wp2
              go_roundw
              case rel => exact ⟨q + 1, by omega, by go_num, H0.out.farC (by omega) _, (H1.out.bytePut x (a ^^^ d)).eq_ (byteRow_congr fun i _ => by rw [Hst.out]; unfold upd; split <;> rfl), Hcs.out, (Hb.out.setCell (p := ⟨ws.heap.size, x, none⟩) (show w.heap.size ≤ ws.heap.size by omega) _).drew⟩
              case measure => simp [intOf]; omega
            · obtain rfl : q = k := by omega
              have b1' := b1.eq_ (byteRow_congr (c := fun i => if i < x + 1 then rotBx f q c i else 0) fun i _ => by rw [show rotTo f c (UInt8.ofNat x) q = rotBx f q c x from rfl, upd_fill])
              clear b1
              have H0 := Lib.hid b0; clear b0; have H1' := Lib.hid b1'; clear b1'; have Hb := Lib.hid hb; clear hb; have Hcw := Lib.hid hcw; clear hcw
              go_wp2
              go_roundw
              case rel => exact ⟨x + 1, by omega, by go_num, H0.out, H1'.out, Hcw.out, Hb.out⟩
              case measure => simp [intOf]; omega
        · obtain rfl : x = 256 := by omega
          have b1' := b1.eq_ (byteRow_full (rotBx f k c) _ hlt)
          clear b1
          have H0 := Lib.hid b0; clear b0; have H1' := Lib.hid b1'; clear b1'; have Hb := Lib.hid hb; clear hb
          go_wp2_with (first | (refine wpList_loadR rfl _ _ rfl _ rfl H1'.out Try.underlying27 rfl size27 (byteRow_size _ _) ?_) | (refine wpList_storeR rfl _ _ _ rfl _ _ rfl rfl H0.out size27 (byteRow_size _ _) (byteRow_size _ _) (byteRow_all _ _) ?_))
          refine bodyPost_ret (results_cellB_tmp rfl _ _ _ rfl (H0.out.setRow _) Try.underlying27 rfl size27 (byteRow_size _ _)) rfl ⟨ret_pairR (by rw [Hv.out]) Hc.out.symm, below_row Hb.out (by omega) _⟩
end Go.Proofs.Ytphfiekhpicpgaa
