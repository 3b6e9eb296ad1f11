/- Contracts: powers of boxes, by the program and by the reference, and the walk of the law. No condition. -/
import Derived.Test.YtphfiekhpicpgaaRows
import Derived.Test.YtphfiekhpicpgaaLaws
import Derived.Test.YtphfiekhpicpgaaPerm
import Derived.Test.YtphfiekhpicpgaaBox
import Derived.Test.YtphfiekhpicpgaaRange
set_option linter.unusedVariables false
namespace Go.Proofs.Ytphfiekhpicpgaa
open Go.RowKit Plain
def unitB : Nat → UInt8 := fun x => UInt8.ofNat x
def PB : Nat → (Nat → UInt8) → (Nat → UInt8) → Nat → (Nat → UInt8)
  | 0, o, _, _ => o
  | f + 1, o, a, k => if k = 0 then o else PB f (if k % 2 = 1 then thenOf o a else o) (thenOf a a) (k / 2)
theorem PB_zero : ∀ f o a, PB f o a 0 = o
  | 0, _, _ => rfl
  | _ + 1, _, _ => by unfold PB; rw [if_pos rfl]
def powOfV (b : Nat → UInt8) (k : Int) : Nat → UInt8 := if inB k 0 1000000 then PB 32 unitB b k.toNat else fun _ => 0
def powOfC (k : Int) : Int := if inB k 0 1000000 then 0 else 2
theorem inB_mil {k : Int} (h : inB k 0 1000000 = true) : ∃ n : Nat, k = n ∧ n ≤ 1000000 := by
  unfold inB at h
  simp only [Bool.and_eq_true, decide_eq_true_eq] at h
  exact ⟨k.toNat, by omega, by omega⟩
theorem ret_pairQ {a b : Array Value} {n m : Int} (h : a = b) (h2 : n = m) : Ending.returned (.tuple #[.agg a, .int .i64 n]) = .returned (.tuple #[.agg b, .int .i64 m]) := by rw [h, h2]

set_option maxRecDepth 100000 in
set_option maxHeartbeats 400000 in
theorem l02Same (w : World) :
    Calls Try.prog 95 #[] w fun e w' => e = .returned (.agg (byteRow 256 unitB)) ∧ Below w.heap.size w w' := by
  go_enter Try.func95, Try.ntmps95
  go_wp2_with (first | (refine wpList_buildZ rfl _ rfl builtBox ?_) | (refine wpList_storeR rfl _ _ _ rfl _ _ rfl rfl ((Blk.newAt (by simp)).eq_ zeroBox) size27 (byteRow_size _ _) (byteRow_size _ _) (byteRow_all _ _) ?_))
  go_loopw [2] (fun i wr => ∃ k : Nat, k ≤ 256 ∧ i = .int .i64 k ∧ Blk wr w.heap.size 27 (byteRow 256 (fun _ => 0)) ∧ Blk wr (w.heap.size + 1) 27 (byteRow 256 (fun i => if i < k then unitB i else 0)) ∧ Below w.heap.size w wr)
    (fun i _ => 256 - (intOf i).toNat)
  case atStart =>
    rw [zeroBox]
    exact ⟨0, by omega, rfl, ((Blk.newAt (w := w) (by simp)).alloc _).rowFar (by omega) _, ((Blk.newAt (w := w.alloc _) (by simp)).setRow _).eq_ (byteRow_none _ _ _), below_row (((Below.refl _ _).alloc (by omega) _).alloc (by simp) _) (by omega) _⟩
  case round =>
    obtain ⟨x, hx, rfl, b0, b1, hb⟩ := hrel
    by_cases hlt : x < 256
    · have hxi : (x : Int) < 256 := by omega
      have c1 := b1.byteAt hlt
      have f1 := b1.frozen x
      have H0 := Lib.hid b0; clear b0; have H1 := Lib.hid b1; clear b1; have Hb := Lib.hid hb; clear hb
      go_wp2
      go_roundw
      case rel => exact ⟨x + 1, by omega, by go_num, H0.out.farC (by omega) _, by have := H1.out.bytePutN x (v := x) hlt; rw [show UInt8.ofNat x = unitB x from rfl, upd_fill] at this; exact this, Hb.out.setCell (p := ⟨w.heap.size + 1, x, none⟩) (by show _ ≤ _ + 1; omega) _⟩
      case measure => simp [intOf]; omega
    · obtain rfl : x = 256 := by omega
      have b1' := b1.eq_ (byteRow_full unitB _ hlt)
      clear b1
      have H0 := Lib.hid b0; clear b0; have H1' := Lib.hid b1'; clear b1'; have Hb := Lib.hid hb; clear hb
      go_wp2_with (first | (refine wpList_loadR rfl _ _ rfl _ rfl H1'.out Try.underlying27 rfl size27 (byteRow_size _ _) ?_) | (refine wpList_storeR rfl _ _ _ rfl _ _ rfl rfl H0.out size27 (byteRow_size _ _) (byteRow_size _ _) (byteRow_all _ _) ?_))
      refine bodyPost_ret (results_cellB rfl _ _ _ rfl (H0.out.setRow _) Try.underlying27 rfl size27 (byteRow_size _ _)) rfl ⟨rfl, below_row Hb.out (by omega) _⟩
end Go.Proofs.Ytphfiekhpicpgaa
