/- Contracts: the data of blocks, by the program and by the reference, and the walk of the law. No condition. -/
import Derived.Test.YtnkfghoajpghkaaRows
import Derived.Test.YtnkfghoajpghkaaBlkI
import Derived.Test.YtnkfghoajpghkaaBlocksOf
set_option linter.unusedVariables false
namespace Go.Proofs.Ytnkfghoajpghkaa
open Go.RowKit Plain
def datN (n : Nat) : Nat := if n ≤ 125 then n * 16 else 0
def datC (n : Nat) : Int := if n ≤ 125 then 0 else 2
theorem dat_not {n : Nat} (h : ¬ n ≤ 125) : datN n = 0 ∧ datC n = 2 := by unfold datN datC; simp [h]
theorem dat_some {n : Nat} (h : n ≤ 125) : datN n = n * 16 ∧ datC n = 0 := by unfold datN datC; simp [h]
theorem dat_le (n : Nat) : datN n ≤ 2000 := by unfold datN; split <;> omega
theorem rowF_nilD {w : World} {B : Nat} {f : Nat → Value} {n : Nat} (hn : n = 0) : RowF w B 5 (.slice none 0 0) n f := by
  subst hn
  exact World.ownsRow_nil w B _ _
set_option maxRecDepth 100000 in
theorem specDataOf {B n : Nat} {v : Value} {b : Nat → UInt8} (w : World) (hrow : RowB w B 89 v n b) :
    Calls Try.prog 38 #[v] w fun e w' => ∃ u, e = .returned (.tuple #[u, .int .i64 (datC n)]) ∧ RowF w' w.heap.size 5 u (datN n) (byt b) ∧ Below w.heap.size w w' := by
  obtain ⟨a, cap, rfl, _, _, _⟩ := hrow.form
  have hs := hrow.blockI
  clear hrow
  by_cases hn : n ≤ 125
  · have hni : ¬ (125 : Int) < (n : Int) := by omega
    obtain ⟨hv, hk⟩ := dat_some hn
    have C := Lib.hid (l01Data w hs hn)
    have Hv := Lib.hid hv; clear hv; have Hk := Lib.hid hk; clear hk
    clear hs
    go_enter Try.func38, Try.ntmps38
    go_wp2_with fail
    refine C.out.mono ?_
    rintro e wx ⟨u, rfl, hr, hb⟩
    have hr := bytL_row hr
    have Hr := Lib.hid hr; clear hr; have Hb := Lib.hid hb; clear hb
    go_wp2_with fail
    go_ret2
    exact ⟨_, ret_pairK rfl Hk.out.symm, by rw [Hv.out]; exact Hr.out, Hb.out⟩
  · have hni : (125 : Int) < (n : Int) := by omega
    obtain ⟨hv, hk⟩ := dat_not hn
    have Hv := Lib.hid hv; clear hv; have Hk := Lib.hid hk; clear hk
    clear hs
    go_enter Try.func38, Try.ntmps38
    go_wp2_with fail
    go_ret2
    exact ⟨_, ret_pairK rfl Hk.out.symm, rowF_nilD Hv.out, Below.refl _ _⟩
set_option maxRecDepth 100000 in
theorem implDataOf {B n : Nat} {v : Value} {b : Nat → UInt8} (w : World) (hrow : RowB w B 89 v n b) :
    Calls Try.prog 40 #[v] w fun e w' => ∃ u, e = .returned (.tuple #[u, .int .i64 (datC n)]) ∧ RowF w' w.heap.size 5 u (datN n) (byt b) ∧ Below w.heap.size w w' := by
  obtain ⟨a, cap, rfl, _, _, _⟩ := hrow.form
  have hs := hrow.blockI
  clear hrow
  by_cases hn : n ≤ 125
  · have hni : ¬ (125 : Int) < (n : Int) := by omega
    obtain ⟨hv, hk⟩ := dat_some hn
    have C := Lib.hid (dataOf w hs hn)
    have Hv := Lib.hid hv; clear hv; have Hk := Lib.hid hk; clear hk
    clear hs
    go_enter Try.func40, Try.ntmps40
    go_wp2_with fail
    refine C.out.mono ?_
    rintro e wx ⟨u, rfl, hr, hb⟩
    have hr := bytL_row hr
    have Hr := Lib.hid hr; clear hr; have Hb := Lib.hid hb; clear hb
    go_wp2_with fail
    go_ret2
    exact ⟨_, ret_pairK rfl Hk.out.symm, by rw [Hv.out]; exact Hr.out, Hb.out⟩
  · have hni : (125 : Int) < (n : Int) := by omega
    obtain ⟨hv, hk⟩ := dat_not hn
    have Hv := Lib.hid hv; clear hv; have Hk := Lib.hid hk; clear hk
    clear hs
    go_enter Try.func40, Try.ntmps40
    go_wp2_with fail
    go_ret2
    exact ⟨_, ret_pairK rfl Hk.out.symm, rowF_nilD Hv.out, Below.refl _ _⟩
set_option maxRecDepth 100000 in
set_option maxHeartbeats 1600000 in
theorem fnExactDataOfBlocks.walk (a0 : Option Addr) (n cap : Nat) (b : Nat → UInt8) (w : World) (hs : BlockI w a0 n cap b) :
    Calls Try.prog 9 #[.slice a0 n cap] w fun e w' => e = .returned (.bool true) ∧ Below w.heap.size w w' := by
  have S := szBlockS a0 n cap w (Nat.le_trans hs.1 hs.2.1)
  by_cases hn : n ≤ 1048576
  · rw [if_pos hn] at S
    have S := Lib.hid S
    have h1 : ¬ (1048576 : Int) - (n : Int) < 0 := by omega
    have HS := Lib.hid hs
    clear hs
    go_enter Try.func9, Try.ntmps9
    have l := Lib.hid (Below.refl w.heap.size w)
    go_wp2_with fail
    refine S.out.mono ?_
    rintro e wx ⟨rfl, hw⟩
    obtain rfl : w = wx := hw.symm
    clear S
    go_wp2_with fail
    refine (toBlockS a0 n cap b _ (HS.out.below l.out) hn).mono ?_
    rintro e wx ⟨va, rfl, hr, hb⟩
    have hr := hr.mono (show w.heap.size ≤ _ from l.out.size)
    have l := carryS l hb
    have ra := Lib.hid hr
    clear hr hb
    go_wp2_with fail
    refine (specDataOf _ ra.out).mono ?_
    rintro e wx ⟨vw, rfl, hr, hb⟩
    have hr := hr.mono (show w.heap.size ≤ _ from l.out.size)
    have l := carryS l hb
    have rw := Lib.hid hr
    clear hr hb ra
    go_wp2_with fail
    refine (toBlockS a0 n cap b _ (HS.out.below l.out) hn).mono ?_
    rintro e wx ⟨vx, rfl, hr, hb⟩
    have n1 := Lib.hid (owns_apart _ (fun k hk => (rw.out.lt k hk).2) (fun k hk => (hr.lt k hk).1))
    have hr := hr.mono (show w.heap.size ≤ _ from l.out.size)
    have rw := carryR rw hb
    have l := carryS l hb
    have rx := Lib.hid hr
    clear hr hb
    go_wp2_with fail
    refine (implDataOf _ rx.out).mono ?_
    rintro e wx ⟨vg, rfl, hr, hb⟩
    have n2 := Lib.hid (owns_apart' _ (fun k hk => (hr.lt k hk).1) (fun k hk => (rx.out.lt k hk).2))
    have n3 := Lib.hid (owns_apart _ (fun k hk => (rw.out.lt k hk).2) (fun k hk => (hr.lt k hk).1))
    have hr := hr.mono (show w.heap.size ≤ _ from l.out.size)
    have rw := carryR rw hb
    have rx := carryK rx hb
    have l := carryS l hb
    have rg := Lib.hid hr
    clear hr hb
    go_wp2_with fail
    refine (eqByteS _ rg.out rw.out).mono ?_
    rintro e wx ⟨rfl, hb⟩
    have rw := carryR rw hb
    have rx := carryK rx hb
    have rg := carryR rg hb
    have l := carryS l hb
    clear hb
    go_wp2_with fail
    refine (toBlockS a0 n cap b _ (HS.out.below l.out) hn).mono ?_
    rintro e wx ⟨vy, rfl, hr, hb⟩
    have hr := hr.mono (show w.heap.size ≤ _ from l.out.size)
    have rw := carryR rw hb
    have rx := carryK rx hb
    have rg := carryR rg hb
    have l := carryS l hb
    have ry := Lib.hid hr
    clear hr hb
    go_wp2_with fail
    refine (eqBlockS _ rx.out ry.out).mono ?_
    rintro e wx ⟨rfl, hb⟩
    have rw := carryR rw hb
    have rx := carryK rx hb
    have rg := carryR rg hb
    have l := carryS l hb
    clear hb ry
    go_wp2_with fail
    refine (markBlockS (q0 := 1) _ rx.out (by omega) (by omega)).mono ?_
    rintro e wx ⟨rfl, hr, hg⟩
    have l := Lib.hid (below_grown l.out hg (by have := l.out.size; omega) (fun q hq => by have := (hr.lt q hq).1; omega))
    have rw := Lib.hid (rw.out.kept hg n1.out)
    have rg := Lib.hid (rg.out.kept hg n2.out)
    have hpos : ¬ (1 : Int) + (n : Int) * 16 < 0 := by omega
    clear hr hg rx
    go_wp2_with fail
    refine (eqByteS _ rg.out rw.out).mono ?_
    rintro e wx ⟨rfl, hb⟩
    have rw := carryR rw hb
    have rg := carryR rg hb
    have l := carryS l hb
    clear hb
    go_wp2_with fail
    have hle := dat_le n
    refine (markByteS (q0 := 1) _ rg.out (by omega) (by omega)).mono ?_
    rintro e wx ⟨rfl, hr, hg⟩
    have l := Lib.hid (below_grown l.out hg (by have := l.out.size; omega) (fun q hq => by have := (hr.lt q hq).1; omega))
    have rw := Lib.hid (rw.out.kept hg n3.out)
    have rg := Lib.hid hr
    clear hr hg
    have hpos2 : ¬ (1 : Int) + (datN n : Int) < 0 := by omega
    go_wp2_with fail
    refine (heldByteS (q0 := 1) _ rg.out (by omega) (by omega)).mono ?_
    rintro e wx ⟨rfl, hb⟩
    have rw := carryR rw hb
    have rg := carryR rg hb
    have l := carryS l hb
    clear hb
    go_wp2_with fail
    refine (toBlockS a0 n cap b _ (HS.out.below l.out) hn).mono ?_
    rintro e wx ⟨vy, rfl, hr, hb⟩
    have hr := hr.mono (show w.heap.size ≤ _ from l.out.size)
    have rw := carryR rw hb
    have rg := carryR rg hb
    have l := carryS l hb
    have ry := Lib.hid hr
    clear hr hb
    go_wp2_with fail
    refine (implDataOf _ ry.out).mono ?_
    rintro e wx ⟨vh, rfl, hr, hb⟩
    have hr := hr.mono (show w.heap.size ≤ _ from l.out.size)
    have rw := carryR rw hb
    have rg := carryR rg hb
    have l := carryS l hb
    have rh := Lib.hid hr
    clear hr hb ry
    go_wp2_with fail
    refine (eqByteS _ rh.out rw.out).mono ?_
    rintro e wx ⟨rfl, hb⟩
    have rg := carryR rg hb
    have l := carryS l hb
    clear hb rw
    go_wp2_with fail
    refine (heldByteS (q0 := 1) _ rg.out (by omega) (by omega)).mono ?_
    rintro e wx ⟨rfl, hb⟩
    have l := carryS l hb
    clear hb
    go_wp2_with fail
    go_ret
    exact ⟨rfl, l.out⟩
  · rw [if_neg hn] at S
    have S := Lib.hid S
    clear hs
    go_enter Try.func9, Try.ntmps9
    go_wp2_with fail
    refine S.out.mono ?_
    rintro e wx ⟨rfl, hw⟩
    obtain rfl : w = wx := hw.symm
    go_wp2_with fail
    go_ret
    exact ⟨rfl, Below.refl _ _⟩
end Go.Proofs.Ytnkfghoajpghkaa
