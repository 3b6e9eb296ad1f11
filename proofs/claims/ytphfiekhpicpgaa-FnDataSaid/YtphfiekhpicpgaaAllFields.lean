/- Contracts: all fields, by the program and by the reference, and the walk of the law. No condition. -/
import Derived.Test.YtphfiekhpicpgaaRows
import Derived.Test.YtphfiekhpicpgaaSlices
import Derived.Test.YtphfiekhpicpgaaField
set_option linter.unusedVariables false
namespace Go.Proofs.Ytphfiekhpicpgaa
open Go.RowKit Plain
def allTo : Nat → List Int
  | 0 => []
  | k + 1 => if fieldB ((k : Int) + 256) then allTo k ++ [(k : Int) + 256] else allTo k
theorem allTo_len : ∀ k, (allTo k).length ≤ k
  | 0 => Nat.le_refl _
  | k + 1 => by
    have := allTo_len k
    unfold allTo
    split
    · simp; omega
    · omega
set_option maxRecDepth 100000 in
set_option maxHeartbeats 400000 in
theorem l01Fields (w : World) :
    Calls Try.prog 83 #[] w fun e w' => ∃ v, e = .returned v ∧ LL w' w.heap.size 2 v (allTo 256) ∧ Below w.heap.size w w' := by
  obtain ⟨i0, hi, hz, hsz, hby⟩ := info_parts info_long
  go_enter Try.func83, Try.ntmps83
  go_wp2
  go_loopw [2, 1] (fun i v wr => ∃ k : Nat, k ≤ 256 ∧ i = .int .i64 ((k : Int) + 256) ∧ LL wr w.heap.size 2 v (allTo k) ∧ Below w.heap.size w wr)
    (fun i _ _ => 600 - (intOf i).toNat)
  case atStart => exact ⟨0, by omega, rfl, LL.new (by simp) (by simp), ((Below.refl _ _).alloc (by omega) _)⟩
  case round =>
    obtain ⟨k, hk, rfl, hl, hb⟩ := hrel
    have hlen := allTo_len k
    have hsize := hb.size
    by_cases hlt : k < 256
    · have hki : (k : Int) + 256 < 512 := by omega
      have Hl := Lib.hid hl; clear hl; have Hb := Lib.hid hb; clear hb
      cases hf : fieldB ((k : Int) + 256) with
      | true =>
        have c := l01Field ((k : Int) + 256)
        rw [hf] at c
        have C := Lib.hid c
        have hfx : allTo (k + 1) = allTo k ++ [(k : Int) + 256] := by show (if _ then _ else _) = _; rw [hf]; rfl
        clear c hf
        have Hfx := Lib.hid hfx; clear hfx
        go_wp2_with (first | (go_at_call 56; refine (C.out _).mono ?_; rintro e wx ⟨rfl, rfl⟩) | (at_builtin; refine wpList_appendL rfl _ _ _ rfl w.heap.size 2 i0 Try.underlying30 hi hz hsz hby _ _ rfl (Hl.out.alloc _) _ _ ((k : Int) + 256) rfl (cell_new1 rfl) (by omega) (by have := Hb.out.size; simp; omega) ?_; intro vy wy hl hg; have BB := Lib.hid (below_grown (Hb.out.alloc (by omega) _) hg (by have := Hb.out.size; simp; omega) (fun q hq => by have := (Hl.out.lt q hq).1; omega)); have LY := Lib.hid hl; clear hl hg))
        go_roundw
        case rel => exact ⟨k + 1, by omega, by go_num, by rw [Hfx.out]; exact LY.out, BB.out⟩
        case measure => simp [intOf]; omega
      | false =>
        have c := l01Field ((k : Int) + 256)
        rw [hf] at c
        have C := Lib.hid c
        have hfx : allTo (k + 1) = allTo k := by show (if _ then _ else _) = _; rw [hf]; rfl
        clear c hf
        have Hfx := Lib.hid hfx; clear hfx
        go_wp2_with (go_at_call 56; refine (C.out _).mono ?_; rintro e wx ⟨rfl, rfl⟩)
        go_roundw
        case rel => exact ⟨k + 1, by omega, by go_num, by rw [Hfx.out]; exact Hl.out, Hb.out⟩
        case measure => simp [intOf]; omega
    · obtain rfl : k = 256 := by omega
      have Hl := Lib.hid hl; clear hl; have Hb := Lib.hid hb; clear hb
      go_wp2
      go_ret
      exact ⟨_, rfl, Hl.out, Hb.out⟩
end Go.Proofs.Ytphfiekhpicpgaa
