/- Contracts: the data of blocks, by the program and by the reference, and the walk of the law. No condition. -/
import Derived.Test.YtphfiekhpicpgaaRows
import Derived.Test.YtphfiekhpicpgaaBlkI
import Derived.Test.YtphfiekhpicpgaaBlocksOf
set_option linter.unusedVariables false
namespace Go.Proofs.Ytphfiekhpicpgaa
open Go.RowKit Plain
def datN (n : Nat) : Nat := if n ≤ 125 then n * 16 else 0
def datC (n : Nat) : Int := if n ≤ 125 then 0 else 2
theorem dat_not {n : Nat} (h : ¬ n ≤ 125) : datN n = 0 ∧ datC n = 2 := by unfold datN datC; simp [h]
theorem dat_some {n : Nat} (h : n ≤ 125) : datN n = n * 16 ∧ datC n = 0 := by unfold datN datC; simp [h]
theorem dat_le (n : Nat) : datN n ≤ 2000 := by unfold datN; split <;> omega
theorem rowF_nilD {w : World} {B : Nat} {f : Nat → Value} {n : Nat} (hn : n = 0) : RowF w B 5 (.slice none 0 0) n f := by
  subst hn
  exact World.ownsRow_nil w B _ _
set_option maxRecDepth 100000 in
theorem specDataOf {B n : Nat} {v : Value} {b : Nat → UInt8} (w : World) (hrow : RowB w B 55 v n b) :
    Calls Try.prog 30 #[v] w fun e w' => ∃ u, e = .returned (.tuple #[u, .int .i64 (datC n)]) ∧ RowF w' w.heap.size 5 u (datN n) (byt b) ∧ Below w.heap.size w w' := by
  obtain ⟨a, cap, rfl, _, _, _⟩ := hrow.form
  have hs := hrow.blockI
  clear hrow
  by_cases hn : n ≤ 125
  · have hni : ¬ (125 : Int) < (n : Int) := by omega
    obtain ⟨hv, hk⟩ := dat_some hn
    have C := Lib.hid (l01Data w hs hn)
    have Hv := Lib.hid hv; clear hv; have Hk := Lib.hid hk; clear hk
    clear hs
    go_enter Try.func30, Try.ntmps30
    go_wp2_with fail
    refine C.out.mono ?_
    rintro e wx ⟨u, rfl, hr, hb⟩
    have hr := bytL_row hr
    have Hr := Lib.hid hr; clear hr; have Hb := Lib.hid hb; clear hb
    go_wp2_with fail
    go_ret2
    exact ⟨_, ret_pairK rfl Hk.out.symm, by rw [Hv.out]; exact Hr.out, Hb.out⟩
  · have hni : (125 : Int) < (n : Int) := by omega
    obtain ⟨hv, hk⟩ := dat_not hn
    have Hv := Lib.hid hv; clear hv; have Hk := Lib.hid hk; clear hk
    clear hs
    go_enter Try.func30, Try.ntmps30
    go_wp2_with fail
    go_ret2
    exact ⟨_, ret_pairK rfl Hk.out.symm, rowF_nilD Hv.out, Below.refl _ _⟩
set_option maxRecDepth 100000 in
theorem implDataOf {B n : Nat} {v : Value} {b : Nat → UInt8} (w : World) (hrow : RowB w B 55 v n b) :
    Calls Try.prog 28 #[v] w fun e w' => ∃ u, e = .returned (.tuple #[u, .int .i64 (datC n)]) ∧ RowF w' w.heap.size 5 u (datN n) (byt b) ∧ Below w.heap.size w w' := by
  obtain ⟨a, cap, rfl, _, _, _⟩ := hrow.form
  have hs := hrow.blockI
  clear hrow
  by_cases hn : n ≤ 125
  · have hni : ¬ (125 : Int) < (n : Int) := by omega
    obtain ⟨hv, hk⟩ := dat_some hn
    have C := Lib.hid (dataOf w hs hn)
    have Hv := Lib.hid hv; clear hv; have Hk := Lib.hid hk; clear hk
    clear hs
    go_enter Try.func28, Try.ntmps28
    go_wp2_with fail
    refine C.out.mono ?_
    rintro e wx ⟨u, rfl, hr, hb⟩
    have hr := bytL_row hr
    have Hr := Lib.hid hr; clear hr; have Hb := Lib.hid hb; clear hb
    go_wp2_with fail
    go_ret2
    exact ⟨_, ret_pairK rfl Hk.out.symm, by rw [Hv.out]; exact Hr.out, Hb.out⟩
  · have hni : (125 : Int) < (n : Int) := by omega
    obtain ⟨hv, hk⟩ := dat_not hn
    have Hv := Lib.hid hv; clear hv; have Hk := Lib.hid hk; clear hk
    clear hs
    go_enter Try.func28, Try.ntmps28
    go_wp2_with fail
    go_ret2
    exact ⟨_, ret_pairK rfl Hk.out.symm, rowF_nilD Hv.out, Below.refl _ _⟩
end Go.Proofs.Ytphfiekhpicpgaa
