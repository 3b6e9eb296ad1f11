/- Contracts: the blocks of data, by the program and by the reference, and the walk of the law. No condition. -/
import Derived.Test.YtphfiekhpicpgaaRows
import Derived.Test.YtphfiekhpicpgaaBlk
import Derived.Test.YtphfiekhpicpgaaBlkS
import Derived.Test.YtphfiekhpicpgaaHexOf
set_option linter.unusedVariables false
namespace Go.Proofs.Ytphfiekhpicpgaa
open Go.RowKit Plain
def blkN (n : Nat) : Nat := if n ≤ 2000 ∧ n % 16 = 0 then n / 16 else 0
def blkC (n : Nat) : Int := if n ≤ 2000 then if n % 16 = 0 then 0 else 5 else 2
theorem blk_not {n : Nat} (h : ¬ n ≤ 2000) : blkN n = 0 ∧ blkC n = 2 := by unfold blkN blkC; simp [h]
theorem blk_odd {n : Nat} (h : n ≤ 2000) (h2 : ¬ n % 16 = 0) : blkN n = 0 ∧ blkC n = 5 := by unfold blkN blkC; simp [h, h2]
theorem blk_some {n : Nat} (h : n ≤ 2000) (h2 : n % 16 = 0) : blkN n = n / 16 ∧ blkC n = 0 := by unfold blkN blkC; simp [h, h2]
theorem blk_le (n : Nat) : blkN n ≤ 125 := by unfold blkN; split <;> omega
theorem ret_pairK {v v' : Value} {n m : Int} (h : v = v') (h2 : n = m) : Ending.returned (.tuple #[v, .int .i64 n]) = .returned (.tuple #[v', .int .i64 m]) := by rw [h, h2]
theorem owns_apart {v v' : Value} (s : Nat) (h1 : ∀ k, v.ownBlock = some k → k < s) (h2 : ∀ k, v'.ownBlock = some k → s ≤ k) : v.ownBlock = none ∨ v.ownBlock ≠ v'.ownBlock := by
  cases hv : v.ownBlock with
  | none => exact .inl rfl
  | some k =>
    refine .inr fun e => ?_
    have := h1 k hv
    have := h2 k e.symm
    omega
theorem owns_apart' {v v' : Value} (s : Nat) (h1 : ∀ k, v.ownBlock = some k → s ≤ k) (h2 : ∀ k, v'.ownBlock = some k → k < s) : v.ownBlock = none ∨ v.ownBlock ≠ v'.ownBlock := by
  cases hv : v.ownBlock with
  | none => exact .inl rfl
  | some k =>
    refine .inr fun e => ?_
    have := h1 k hv
    have := h2 k e.symm
    omega
theorem tmod16 {n : Nat} (h : n % 16 = 0) : (n : Int).tmod 16 = 0 := by rw [Int.tmod_eq_emod_of_nonneg (by omega)]; omega
theorem tmod16' {n : Nat} (h : ¬ n % 16 = 0) : ∃ r : Int, (n : Int).tmod 16 = r ∧ ¬ r = 0 := ⟨_, rfl, by rw [Int.tmod_eq_emod_of_nonneg (by omega)]; omega⟩
set_option maxRecDepth 100000 in
theorem specBlocksOf {B n : Nat} {v : Value} {b : Nat → UInt8} (w : World) (hrow : RowF w B 5 v n (byt b)) :
    Calls Try.prog 26 #[v] w fun e w' => ∃ u, e = .returned (.tuple #[u, .int .i64 (blkC n)]) ∧ RowB w' w.heap.size 55 u (blkN n) b ∧ Below w.heap.size w w' := by
  obtain ⟨a, cap, rfl, _, _, _⟩ := hrow.form
  have hs := hrow.byteS
  clear hrow
  by_cases hn : n ≤ 2000
  · have hni : ¬ (2000 : Int) < (n : Int) := by omega
    by_cases h16 : n % 16 = 0
    · obtain ⟨hv, hk⟩ := blk_some hn h16
      have e1 := tmod16 h16
      have C := Lib.hid (l01Blocks w hs (m := n / 16) (by omega) (by omega))
      have Hv := Lib.hid hv; clear hv; have Hk := Lib.hid hk; clear hk
      clear hs h16
      go_enter Try.func26, Try.ntmps26
      go_wp2_with fail
      refine C.out.mono ?_
      rintro e wx ⟨u, rfl, hr, hb⟩
      have Hr := Lib.hid hr; clear hr; have Hb := Lib.hid hb; clear hb
      go_wp2_with fail
      go_ret2
      exact ⟨_, ret_pairK rfl Hk.out.symm, by rw [Hv.out]; exact Hr.out, Hb.out⟩
    · obtain ⟨hv, hk⟩ := blk_odd hn h16
      obtain ⟨r, e1, e2⟩ := tmod16' h16
      have Hv := Lib.hid hv; clear hv; have Hk := Lib.hid hk; clear hk
      clear hs h16
      go_enter Try.func26, Try.ntmps26
      go_wp2_with fail
      go_ret2
      exact ⟨_, ret_pairK rfl Hk.out.symm, RowB.nil Hv.out, Below.refl _ _⟩
  · have hni : (2000 : Int) < (n : Int) := by omega
    obtain ⟨hv, hk⟩ := blk_not hn
    have Hv := Lib.hid hv; clear hv; have Hk := Lib.hid hk; clear hk
    clear hs
    go_enter Try.func26, Try.ntmps26
    go_wp2_with fail
    go_ret2
    exact ⟨_, ret_pairK rfl Hk.out.symm, RowB.nil Hv.out, Below.refl _ _⟩
set_option maxRecDepth 100000 in
theorem implBlocksOf {B n : Nat} {v : Value} {b : Nat → UInt8} (w : World) (hrow : RowF w B 5 v n (byt b)) :
    Calls Try.prog 25 #[v] w fun e w' => ∃ u, e = .returned (.tuple #[u, .int .i64 (blkC n)]) ∧ RowB w' w.heap.size 55 u (blkN n) b ∧ Below w.heap.size w w' := by
  obtain ⟨a, cap, rfl, _, _, _⟩ := hrow.form
  have hs := hrow.byteS
  clear hrow
  by_cases hn : n ≤ 2000
  · have D := isData a n cap w
    rw [decide_eq_true (show (n : Int) ≤ 2000 by omega)] at D
    have D := Lib.hid D
    by_cases h16 : n % 16 = 0
    · obtain ⟨hv, hk⟩ := blk_some hn h16
      have e1 := tmod16 h16
      have C := Lib.hid (blocksOf w hs (m := n / 16) (by omega) (by omega))
      have Hv := Lib.hid hv; clear hv; have Hk := Lib.hid hk; clear hk
      clear hs h16
      go_enter Try.func25, Try.ntmps25
      go_wp2_with fail
      refine D.out.mono ?_
      rintro e wx ⟨rfl, rfl⟩
      go_wp2_with fail
      refine C.out.mono ?_
      rintro e wx ⟨u, rfl, hr, hb⟩
      have Hr := Lib.hid hr; clear hr; have Hb := Lib.hid hb; clear hb
      go_wp2_with fail
      go_ret2
      exact ⟨_, ret_pairK rfl Hk.out.symm, by rw [Hv.out]; exact Hr.out, Hb.out⟩
    · obtain ⟨hv, hk⟩ := blk_odd hn h16
      obtain ⟨r, e1, e2⟩ := tmod16' h16
      have Hv := Lib.hid hv; clear hv; have Hk := Lib.hid hk; clear hk
      clear hs h16
      go_enter Try.func25, Try.ntmps25
      go_wp2_with fail
      refine D.out.mono ?_
      rintro e wx ⟨rfl, rfl⟩
      go_wp2_with fail
      go_ret2
      exact ⟨_, ret_pairK rfl Hk.out.symm, RowB.nil Hv.out, Below.refl _ _⟩
  · have D := isData a n cap w
    rw [decide_eq_false (show ¬ (n : Int) ≤ 2000 by omega)] at D
    have D := Lib.hid D
    obtain ⟨hv, hk⟩ := blk_not hn
    have Hv := Lib.hid hv; clear hv; have Hk := Lib.hid hk; clear hk
    clear hs
    go_enter Try.func25, Try.ntmps25
    go_wp2_with fail
    refine D.out.mono ?_
    rintro e wx ⟨rfl, rfl⟩
    go_wp2_with fail
    go_ret2
    exact ⟨_, ret_pairK rfl Hk.out.symm, RowB.nil Hv.out, Below.refl _ _⟩
end Go.Proofs.Ytphfiekhpicpgaa
