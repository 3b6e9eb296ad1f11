/- Contracts: all fields, by the program and by the reference, and the walk of the law. No condition. -/
import Derived.Test.YtcfmaicmlcmleaaRows
import Derived.Test.YtcfmaicmlcmleaaSlices
import Derived.Test.YtcfmaicmlcmleaaField
set_option linter.unusedVariables false
namespace Go.Proofs.Ytcfmaicmlcmleaa
open Go.RowKit Plain
def allTo : Nat → List Int
  | 0 => []
  | k + 1 => if fieldB ((k : Int) + 256) then allTo k ++ [(k : Int) + 256] else allTo k
theorem allTo_len : ∀ k, (allTo k).length ≤ k
  | 0 => Nat.le_refl _
  | k + 1 => by
    have := allTo_len k
    unfold allTo
    split
    · simp; omega
    · omega
set_option maxRecDepth 100000 in
set_option maxHeartbeats 400000 in
theorem l01Fields (w : World) :
    Calls Try.prog 57 #[] w fun e w' => ∃ v, e = .returned v ∧ LL w' w.heap.size 2 v (allTo 256) ∧ Below w.heap.size w w' := by
  obtain ⟨i0, hi, hz, hsz, hby⟩ := info_parts info_long
  go_enter Try.func57, Try.ntmps57
  go_wp2
  go_loopw [2, 1] (fun i v wr => ∃ k : Nat, k ≤ 256 ∧ i = .int .i64 ((k : Int) + 256) ∧ LL wr w.heap.size 2 v (allTo k) ∧ Below w.heap.size w wr)
    (fun i _ _ => 600 - (intOf i).toNat)
  case atStart => exact ⟨0, by omega, rfl, LL.new (by simp) (by simp), ((Below.refl _ _).alloc (by omega) _)⟩
  case round =>
    obtain ⟨k, hk, rfl, hl, hb⟩ := hrel
    have hlen := allTo_len k
    have hsize := hb.size
    by_cases hlt : k < 256
    · have hki : (k : Int) + 256 < 512 := by omega
      have Hl := Lib.hid hl; clear hl; have Hb := Lib.hid hb; clear hb
      cases hf : fieldB ((k : Int) + 256) with
      | true =>
        have c := l01Field ((k : Int) + 256)
        rw [hf] at c
        have C := Lib.hid c
        have hfx : allTo (k + 1) = allTo k ++ [(k : Int) + 256] := by show (if _ then _ else _) = _; rw [hf]; rfl
        clear c hf
        have Hfx := Lib.hid hfx; clear hfx
        go_wp2_with (first | (go_at_call 43; refine (C.out _).mono ?_; rintro e wx ⟨rfl, rfl⟩) | (at_builtin; refine wpList_appendL rfl _ _ _ rfl w.heap.size 2 i0 Try.underlying34 hi hz hsz hby _ _ rfl (Hl.out.alloc _) _ _ ((k : Int) + 256) rfl (cell_new1 rfl) (by omega) (by have := Hb.out.size; simp; omega) ?_; intro vy wy hl hg; have BB := Lib.hid (below_grown (Hb.out.alloc (by omega) _) hg (by have := Hb.out.size; simp; omega) (fun q hq => by have := (Hl.out.lt q hq).1; omega)); have LY := Lib.hid hl; clear hl hg))
        go_roundw
        case rel => exact ⟨k + 1, by omega, by go_num, by rw [Hfx.out]; exact LY.out, BB.out⟩
        case measure => simp [intOf]; omega
      | false =>
        have c := l01Field ((k : Int) + 256)
        rw [hf] at c
        have C := Lib.hid c
        have hfx : allTo (k + 1) = allTo k := by show (if _ then _ else _) = _; rw [hf]; rfl
        clear c hf
        have Hfx := Lib.hid hfx; clear hfx
        go_wp2_with (go_at_call 43; refine (C.out _).mono ?_; rintro e wx ⟨rfl, rfl⟩)
        go_roundw
        case rel => exact ⟨k + 1, by omega, by go_num, by rw [Hfx.out]; exact Hl.out, Hb.out⟩
        case measure => simp [intOf]; omega
    · obtain rfl : k = 256 := by omega
      have Hl := Lib.hid hl; clear hl; have Hb := Lib.hid hb; clear hb
      go_wp2
      go_ret
      exact ⟨_, rfl, Hl.out, Hb.out⟩
set_option maxHeartbeats 400000 in
theorem specAllFields (w : World) :
    Calls Try.prog 35 #[] w fun e w' => ∃ v, e = .returned v ∧ RowF w' w.heap.size 2 v (allTo 256).length (lng (fun i => (allTo 256).getD i 0)) ∧ Below w.heap.size w w' := by
  go_enter Try.func35, Try.ntmps35
  go_wp2_with (go_at_call 57; refine (l01Fields _).mono ?_; rintro e wx ⟨v, rfl, hl, hb⟩; have Hl := Lib.hid hl; have Hb := Lib.hid hb; clear hl hb)
  go_ret
  exact ⟨_, rfl, Hl.out.rowF, Hb.out⟩
set_option maxRecDepth 100000 in
set_option maxHeartbeats 400000 in
theorem implAllFields (w : World) :
    Calls Try.prog 36 #[] w fun e w' => ∃ v, e = .returned v ∧ RowF w' w.heap.size 2 v (allTo 256).length (lng (fun i => (allTo 256).getD i 0)) ∧ Below w.heap.size w w' := by
  obtain ⟨i0, hi, hz, hsz, hby⟩ := info_parts info_long
  go_enter Try.func36, Try.ntmps36
  go_wp2
  go_loopw [2, 1] (fun i v wr => ∃ k : Nat, k ≤ 256 ∧ i = .int .i64 ((k : Int) + 256) ∧ LL wr w.heap.size 2 v (allTo k) ∧ Below w.heap.size w wr)
    (fun i _ _ => 600 - (intOf i).toNat)
  case atStart => exact ⟨0, by omega, rfl, LL.new (by simp) (by simp), ((Below.refl _ _).alloc (by omega) _)⟩
  case round =>
    obtain ⟨k, hk, rfl, hl, hb⟩ := hrel
    have hlen := allTo_len k
    have hsize := hb.size
    by_cases hlt : k < 256
    · have hki : (k : Int) + 256 ≤ 511 := by omega
      have Hl := Lib.hid hl; clear hl; have Hb := Lib.hid hb; clear hb
      cases hf : fieldB ((k : Int) + 256) with
      | true =>
        have c := implIsField ((k : Int) + 256)
        rw [hf] at c
        have C := Lib.hid c
        have hfx : allTo (k + 1) = allTo k ++ [(k : Int) + 256] := by show (if _ then _ else _) = _; rw [hf]; rfl
        clear c hf
        have Hfx := Lib.hid hfx; clear hfx
        go_wp2_with (first | (go_at_call 16; refine (C.out _).mono ?_; rintro e wx ⟨rfl, rfl⟩) | (at_builtin; refine wpList_appendL rfl _ _ _ rfl w.heap.size 2 i0 Try.underlying34 hi hz hsz hby _ _ rfl (Hl.out.alloc _) _ _ ((k : Int) + 256) rfl (cell_new1 rfl) (by omega) (by have := Hb.out.size; simp; omega) ?_; intro vy wy hl hg; have BB := Lib.hid (below_grown (Hb.out.alloc (by omega) _) hg (by have := Hb.out.size; simp; omega) (fun q hq => by have := (Hl.out.lt q hq).1; omega)); have LY := Lib.hid hl; clear hl hg))
        go_roundw
        case rel => exact ⟨k + 1, by omega, by go_num, by rw [Hfx.out]; exact LY.out, BB.out⟩
        case measure => simp [intOf]; omega
      | false =>
        have c := implIsField ((k : Int) + 256)
        rw [hf] at c
        have C := Lib.hid c
        have hfx : allTo (k + 1) = allTo k := by show (if _ then _ else _) = _; rw [hf]; rfl
        clear c hf
        have Hfx := Lib.hid hfx; clear hfx
        go_wp2_with (go_at_call 16; refine (C.out _).mono ?_; rintro e wx ⟨rfl, rfl⟩)
        go_roundw
        case rel => exact ⟨k + 1, by omega, by go_num, by rw [Hfx.out]; exact Hl.out, Hb.out⟩
        case measure => simp [intOf]; omega
    · obtain rfl : k = 256 := by omega
      have Hl := Lib.hid hl; clear hl; have Hb := Lib.hid hb; clear hb
      go_wp2
      go_ret
      exact ⟨_, rfl, Hl.out.rowF, Hb.out⟩
set_option maxRecDepth 100000 in
set_option maxHeartbeats 1600000 in
theorem fnExactAllFields.walk (w : World) :
    Calls Try.prog 13 #[] w fun e w' => e = .returned (.bool true) ∧ Below w.heap.size w w' := by
  go_enter Try.func13, Try.ntmps13
  have l := Lib.hid (Below.refl w.heap.size w)
  go_wp2_with fail
  refine (specAllFields _).mono ?_
  rintro e wx ⟨vw, rfl, hr, hb⟩
  have hr := hr.mono (show w.heap.size ≤ _ from by have := l.out.size; omega)
  have l := carryS l hb
  have rw := Lib.hid hr
  clear hr hb
  go_wp2_with fail
  refine (implAllFields _).mono ?_
  rintro e wx ⟨vg, rfl, hr, hb⟩
  have ne := Lib.hid (rows_apart rw.out hr (by omega))
  have hr := hr.mono (show w.heap.size ≤ _ from by have := l.out.size; omega)
  have l := carryS l hb
  have rw := carryR rw hb
  have rg := Lib.hid hr
  clear hr hb
  go_wp2_with fail
  refine (eqInt64S _ rg.out rw.out).mono ?_
  rintro e wx ⟨rfl, hb⟩
  have l := carryS l hb
  have rw := carryR rw hb
  have rg := carryR rg hb
  clear hb
  go_wp2_with fail
  refine (markInt64S (q0 := 1) _ rg.out (by omega) (by have := allTo_len 256; omega)).mono ?_
  rintro e wx ⟨rfl, hr, hg⟩
  have l := Lib.hid (below_grown l.out hg (by have := l.out.size; omega) (fun q hq => by have := (hr.lt q hq).1; omega))
  have rw := Lib.hid (rw.out.kept hg ne.out)
  have rg := Lib.hid hr
  clear hr hg
  go_wp2_with fail
  refine (heldInt64S (q0 := 1) _ rg.out (by omega) (by have := allTo_len 256; omega)).mono ?_
  rintro e wx ⟨rfl, hb⟩
  have l := carryS l hb
  have rw := carryR rw hb
  have rg := carryR rg hb
  clear hb
  go_wp2_with fail
  refine (implAllFields _).mono ?_
  rintro e wx ⟨vh, rfl, hr, hb⟩
  have hr := hr.mono (show w.heap.size ≤ _ from by have := l.out.size; omega)
  have l := carryS l hb
  have rw := carryR rw hb
  have rg := carryR rg hb
  have rh := Lib.hid hr
  clear hr hb
  go_wp2_with fail
  refine (eqInt64S _ rh.out rw.out).mono ?_
  rintro e wx ⟨rfl, hb⟩
  have l := carryS l hb
  have rw := carryR rw hb
  have rg := carryR rg hb
  clear hb
  go_wp2_with fail
  refine (heldInt64S (q0 := 1) _ rg.out (by omega) (by have := allTo_len 256; omega)).mono ?_
  rintro e wx ⟨rfl, hb⟩
  have l := carryS l hb
  clear hb
  go_wp2_with fail
  go_ret
  exact ⟨rfl, l.out⟩
end Go.Proofs.Ytcfmaicmlcmleaa
