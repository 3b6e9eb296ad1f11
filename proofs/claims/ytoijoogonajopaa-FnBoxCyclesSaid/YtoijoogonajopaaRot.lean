/- Contracts: boxes of rotations, by the program and by the reference, and the walk of the law. No condition. -/
import Derived.Test.YtoijoogonajopaaRows
import Derived.Test.YtoijoogonajopaaLaws
import Derived.Test.YtoijoogonajopaaPerm
import Derived.Test.YtoijoogonajopaaBox
import Derived.Test.YtoijoogonajopaaRange
import Derived.Test.YtoijoogonajopaaSliIn
import Derived.Test.YtoijoogonajopaaTurn
import Derived.StillTailTactics
import Derived.Deep.DeepCutAuto
set_option linter.unusedVariables false
namespace Go.Proofs.Ytoijoogonajopaa
open Go.RowKit Plain
def rotTo (f : Nat → Int) (c x : UInt8) : Nat → UInt8
  | 0 => c
  | k + 1 => rotTo f c x k ^^^ turnV x (f k).toNat
def rotBx (f : Nat → Int) (n : Nat) (c : UInt8) : Nat → UInt8 := fun x => rotTo f c (UInt8.ofNat x) n
def rotB (f : Nat → Int) : Nat → Bool
  | 0 => true
  | k + 1 => rotB f k && (inB (f k) 0 7 && (decide (k = 0) || decide (f (k - 1) < f k)))
def rotGood (n : Nat) (f : Nat → Int) : Bool := (decide (1 ≤ n) && decide (n ≤ 8)) && rotB f n
def rotV (n : Nat) (f : Nat → Int) (c : UInt8) : Nat → UInt8 := if rotGood n f = true then rotBx f n c else fun _ => 0
def rotC (n : Nat) (f : Nat → Int) : Int := if rotGood n f = true then 0 else 2
theorem rot_bad {n : Nat} {f : Nat → Int} (c : UInt8) (h : rotGood n f = false) : rotV n f c = (fun _ => 0) ∧ rotC n f = 2 := by
  unfold rotV rotC
  rw [h]
  exact ⟨rfl, rfl⟩
theorem rot_good {n : Nat} {f : Nat → Int} (c : UInt8) (h : rotGood n f = true) : rotV n f c = rotBx f n c ∧ rotC n f = 0 := by
  unfold rotV rotC
  rw [h]
  exact ⟨rfl, rfl⟩
theorem rotB_false {f : Nat → Int} {k : Nat} (h : rotB f k = false) : ∀ n, k ≤ n → rotB f n = false
  | 0, hn => by
    obtain rfl : k = 0 := by omega
    exact h
  | n + 1, hn => by
    by_cases he : k = n + 1
    · subst he; exact h
    · unfold rotB
      rw [rotB_false h n (by omega), Bool.false_and]
theorem good_false {n k : Nat} {f : Nat → Int} (h : rotB f k = false) (hk : k ≤ n) : rotGood n f = false := by
  unfold rotGood
  rw [rotB_false h n hk, Bool.and_false]
theorem good_size {n : Nat} {f : Nat → Int} (h : ¬ (1 ≤ n ∧ n ≤ 8)) : rotGood n f = false := by
  unfold rotGood
  have : (decide (1 ≤ n) && decide (n ≤ 8)) = false := by
    rw [Bool.and_eq_false_iff, decide_eq_false_iff_not, decide_eq_false_iff_not]
    omega
  rw [this, Bool.false_and]
theorem good_true {n : Nat} {f : Nat → Int} (h1 : 1 ≤ n) (h2 : n ≤ 8) (h : rotB f n = true) : rotGood n f = true := by
  unfold rotGood
  rw [h, decide_eq_true h1, decide_eq_true h2]
  rfl
theorem rotB_in {f : Nat → Int} : ∀ {n : Nat}, rotB f n = true → ∀ i, i < n → 0 ≤ f i ∧ f i ≤ 7
  | 0, _, i, hi => absurd hi (Nat.not_lt_zero i)
  | n + 1, h, i, hi => by
    unfold rotB at h
    rw [Bool.and_eq_true, Bool.and_eq_true] at h
    by_cases he : i = n
    · subst he
      have := h.2.1
      unfold inB at this
      simp only [Bool.and_eq_true, decide_eq_true_eq] at this
      omega
    · exact rotB_in h.1 i (by omega)
theorem ret_pairR {a b : Array Value} {n m : Int} (h : a = b) (h2 : n = m) : Ending.returned (.tuple #[.agg a, .int .i64 n]) = .returned (.tuple #[.agg b, .int .i64 m]) := by rw [h, h2]
def CellsI (w : World) (g n : Nat) (f : Nat → Int) : Prop := g < w.heap.size ∧ ∀ i, i < n → w.cell? ⟨g, i, none⟩ = some (.int .i64 (f i))
theorem CellsI.below {w w' : World} {g n : Nat} {f : Nat → Int} (h : CellsI w g n f) (hb : Below w.heap.size w w') : CellsI w' g n f :=
  ⟨Nat.lt_of_lt_of_le h.1 hb.size, fun i hi => (hb.cell (p := ⟨g, i, none⟩) h.1).trans (h.2 i hi)⟩
theorem CellsI.up {w w' : World} {B g n : Nat} {f : Nat → Int} (h : CellsI w g n f) (hg : g < B) (hb : Below B w w') : CellsI w' g n f :=
  ⟨Nat.lt_of_lt_of_le h.1 hb.size, fun i hi => (hb.cell (p := ⟨g, i, none⟩) hg).trans (h.2 i hi)⟩
set_option maxRecDepth 100000 in
set_option maxHeartbeats 800000 in
theorem l02Rotations {g n cap : Nat} {f : Nat → Int} (c : UInt8) (w : World) (hc : CellsI w g n f) (hn : n ≤ 8) (hf : ∀ i, i < n → 0 ≤ f i ∧ f i ≤ 7) :
    Calls Try.prog 54 #[.slice (some ⟨g, 0, none⟩) n cap, .int .u8 (c.toNat : Int)] w fun e w' => e = .returned (.agg (byteRow 256 (rotBx f n c))) ∧ Below w.heap.size w w' := by
  have HC := Lib.hid hc
  have hg := hc.1
  clear hc
  go_enter Try.func54, Try.ntmps54
  go_wp2_with (first | (refine wpList_buildZ rfl _ rfl builtBox ?_) | (refine wpList_storeR rfl _ _ _ rfl _ _ rfl rfl ((Blk.newAt (by simp)).eq_ zeroBox) size25 (byteRow_size _ _) (byteRow_size _ _) (byteRow_all _ _) ?_))
  go_loopw [6] (fun i wr => ∃ k : Nat, k ≤ 256 ∧ i = .int .i64 k ∧ Blk wr w.heap.size 25 (byteRow 256 (fun _ => 0)) ∧ Blk wr (w.heap.size + 1) 25 (byteRow 256 (fun i => if i < k then rotBx f n c i else 0)) ∧ Below w.heap.size w wr)
    (fun i _ => 256 - (intOf i).toNat)
  case atStart =>
    rw [zeroBox]
    exact ⟨0, by omega, rfl, ((Blk.newAt (w := w) (by simp)).alloc _).rowFar (by omega) _, ((Blk.newAt (w := w.alloc _) (by simp)).setRow _).eq_ (byteRow_none _ _ _), below_row (((Below.refl _ _).alloc (by omega) _).alloc (by simp) _) (by omega) _⟩
  case round =>
    obtain ⟨x, hx, rfl, b0, b1, hb⟩ := hrel
    by_cases hlt : x < 256
    · have hxi : (x : Int) < 256 := by omega
      have hcw := HC.out.up hg hb
      have c1 := b1.byteAt hlt
      have f1 := b1.frozen x
      have H0 := Lib.hid b0; clear b0; have H1 := Lib.hid b1; clear b1; have Hb := Lib.hid hb; clear hb; have Hcw := Lib.hid hcw; clear hcw
      obtain ⟨wp, rfl⟩ : ∃ wp : World, wp = wr := ⟨_, rfl⟩
      go_wp2
      go_loop [8, 7] (fun i v => ∃ q : Nat, q ≤ n ∧ i = .int .i64 q ∧ v = .int .u8 ((rotTo f c (UInt8.ofNat x) q).toNat : Int)) (fun i _ => n - (intOf i).toNat)
      case atStart => exact ⟨0, by omega, rfl, rfl⟩
      case round =>
        obtain ⟨q, hq, rfl, rfl⟩ := hrel
        by_cases hqt : q < n
        · have hqi : (q : Int) < (n : Int) := by omega
          obtain ⟨k, hk⟩ : ∃ k : Nat, f q = k := ⟨(f q).toNat, by have := hf q hqt; omega⟩
          have hk8 : k < 8 := by have := hf q hqt; omega
          have c0 := Hcw.out.2 q hqt
          rw [hk] at c0
          have ho := l02Turn (UInt8.ofNat x) k hk8
          rw [toNat_ofNat_lt hlt] at ho
          have hst : rotTo f c (UInt8.ofNat x) (q + 1) = rotTo f c (UInt8.ofNat x) q ^^^ turnV (UInt8.ofNat x) k := by
            show rotTo f c (UInt8.ofNat x) q ^^^ turnV (UInt8.ofNat x) (f q).toNat = _
            rw [hk]
            rfl
          obtain ⟨a, ha⟩ : ∃ a, rotTo f c (UInt8.ofNat x) q = a := ⟨_, rfl⟩
          obtain ⟨d, hd⟩ : ∃ d, turnV (UInt8.ofNat x) k = d := ⟨_, rfl⟩
          rw [hd] at ho
          rw [ha, hd] at hst
          rw [ha]
          have ex := b_xor a d
          have HO := Lib.hid ho
          clear ho hk ha hd
          have Hst := Lib.hid hst; clear hst
          go_wp2_with (go_at_call 65; refine (HO.out _).mono ?_; rintro e wx ⟨rfl, rfl⟩)
          go_round
          case rel => exact ⟨q + 1, by omega, by go_num, by rw [Hst.out, UInt8.toNat_xor]⟩
          case measure => simp [intOf]; omega
        · obtain rfl : q = n := by omega
          have hv : rotTo f c (UInt8.ofNat x) q = rotBx f q c x := rfl
          rw [hv]
          clear hv
          go_wp2
          go_roundw
          case rel => exact ⟨x + 1, by omega, by go_num, H0.out.farC (by omega) _, (H1.out.bytePut x (rotBx f q c x)).eq_ (by rw [upd_fill]), Hb.out.setCell (p := ⟨w.heap.size + 1, x, none⟩) (by show _ ≤ _ + 1; omega) _⟩
          case measure => simp [intOf]; omega
    · obtain rfl : x = 256 := by omega
      have b1' := b1.eq_ (byteRow_full (rotBx f n c) _ hlt)
      clear b1
      have H0 := Lib.hid b0; clear b0; have H1' := Lib.hid b1'; clear b1'; have Hb := Lib.hid hb; clear hb
      go_wp2_with (first | (refine wpList_loadR rfl _ _ rfl _ rfl H1'.out Try.underlying25 rfl size25 (byteRow_size _ _) ?_) | (refine wpList_storeR rfl _ _ _ rfl _ _ rfl rfl H0.out size25 (byteRow_size _ _) (byteRow_size _ _) (byteRow_all _ _) ?_))
      refine bodyPost_ret (results_cellB rfl _ _ _ rfl (H0.out.setRow _) Try.underlying25 rfl size25 (byteRow_size _ _)) rfl ⟨rfl, below_row Hb.out (by omega) _⟩
end Go.Proofs.Ytoijoogonajopaa
