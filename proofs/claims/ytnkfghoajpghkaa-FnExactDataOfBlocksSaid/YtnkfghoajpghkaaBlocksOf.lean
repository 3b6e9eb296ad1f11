/- Contracts: the blocks of data, by the program and by the reference, and the walk of the law. No condition. -/
import Derived.Test.YtnkfghoajpghkaaRows
import Derived.Test.YtnkfghoajpghkaaBlk
import Derived.Test.YtnkfghoajpghkaaBlkS
import Derived.Test.YtnkfghoajpghkaaHexOf
set_option linter.unusedVariables false
namespace Go.Proofs.Ytnkfghoajpghkaa
open Go.RowKit Plain
def blkN (n : Nat) : Nat := if n ≤ 2000 ∧ n % 16 = 0 then n / 16 else 0
def blkC (n : Nat) : Int := if n ≤ 2000 then if n % 16 = 0 then 0 else 5 else 2
theorem blk_not {n : Nat} (h : ¬ n ≤ 2000) : blkN n = 0 ∧ blkC n = 2 := by unfold blkN blkC; simp [h]
theorem blk_odd {n : Nat} (h : n ≤ 2000) (h2 : ¬ n % 16 = 0) : blkN n = 0 ∧ blkC n = 5 := by unfold blkN blkC; simp [h, h2]
theorem blk_some {n : Nat} (h : n ≤ 2000) (h2 : n % 16 = 0) : blkN n = n / 16 ∧ blkC n = 0 := by unfold blkN blkC; simp [h, h2]
theorem blk_le (n : Nat) : blkN n ≤ 125 := by unfold blkN; split <;> omega
theorem ret_pairK {v v' : Value} {n m : Int} (h : v = v') (h2 : n = m) : Ending.returned (.tuple #[v, .int .i64 n]) = .returned (.tuple #[v', .int .i64 m]) := by rw [h, h2]
theorem owns_apart {v v' : Value} (s : Nat) (h1 : ∀ k, v.ownBlock = some k → k < s) (h2 : ∀ k, v'.ownBlock = some k → s ≤ k) : v.ownBlock = none ∨ v.ownBlock ≠ v'.ownBlock := by
  cases hv : v.ownBlock with
  | none => exact .inl rfl
  | some k =>
    refine .inr fun e => ?_
    have := h1 k hv
    have := h2 k e.symm
    omega
theorem owns_apart' {v v' : Value} (s : Nat) (h1 : ∀ k, v.ownBlock = some k → s ≤ k) (h2 : ∀ k, v'.ownBlock = some k → k < s) : v.ownBlock = none ∨ v.ownBlock ≠ v'.ownBlock := by
  cases hv : v.ownBlock with
  | none => exact .inl rfl
  | some k =>
    refine .inr fun e => ?_
    have := h1 k hv
    have := h2 k e.symm
    omega
theorem tmod16 {n : Nat} (h : n % 16 = 0) : (n : Int).tmod 16 = 0 := by rw [Int.tmod_eq_emod_of_nonneg (by omega)]; omega
theorem tmod16' {n : Nat} (h : ¬ n % 16 = 0) : ∃ r : Int, (n : Int).tmod 16 = r ∧ ¬ r = 0 := ⟨_, rfl, by rw [Int.tmod_eq_emod_of_nonneg (by omega)]; omega⟩
set_option maxRecDepth 100000 in
theorem specBlocksOf {B n : Nat} {v : Value} {b : Nat → UInt8} (w : World) (hrow : RowF w B 5 v n (byt b)) :
    Calls Try.prog 32 #[v] w fun e w' => ∃ u, e = .returned (.tuple #[u, .int .i64 (blkC n)]) ∧ RowB w' w.heap.size 89 u (blkN n) b ∧ Below w.heap.size w w' := by
  obtain ⟨a, cap, rfl, _, _, _⟩ := hrow.form
  have hs := hrow.byteS
  clear hrow
  by_cases hn : n ≤ 2000
  · have hni : ¬ (2000 : Int) < (n : Int) := by omega
    by_cases h16 : n % 16 = 0
    · obtain ⟨hv, hk⟩ := blk_some hn h16
      have e1 := tmod16 h16
      have C := Lib.hid (l01Blocks w hs (m := n / 16) (by omega) (by omega))
      have Hv := Lib.hid hv; clear hv; have Hk := Lib.hid hk; clear hk
      clear hs h16
      go_enter Try.func32, Try.ntmps32
      go_wp2_with fail
      refine C.out.mono ?_
      rintro e wx ⟨u, rfl, hr, hb⟩
      have Hr := Lib.hid hr; clear hr; have Hb := Lib.hid hb; clear hb
      go_wp2_with fail
      go_ret2
      exact ⟨_, ret_pairK rfl Hk.out.symm, by rw [Hv.out]; exact Hr.out, Hb.out⟩
    · obtain ⟨hv, hk⟩ := blk_odd hn h16
      obtain ⟨r, e1, e2⟩ := tmod16' h16
      have Hv := Lib.hid hv; clear hv; have Hk := Lib.hid hk; clear hk
      clear hs h16
      go_enter Try.func32, Try.ntmps32
      go_wp2_with fail
      go_ret2
      exact ⟨_, ret_pairK rfl Hk.out.symm, RowB.nil Hv.out, Below.refl _ _⟩
  · have hni : (2000 : Int) < (n : Int) := by omega
    obtain ⟨hv, hk⟩ := blk_not hn
    have Hv := Lib.hid hv; clear hv; have Hk := Lib.hid hk; clear hk
    clear hs
    go_enter Try.func32, Try.ntmps32
    go_wp2_with fail
    go_ret2
    exact ⟨_, ret_pairK rfl Hk.out.symm, RowB.nil Hv.out, Below.refl _ _⟩
set_option maxRecDepth 100000 in
theorem implBlocksOf {B n : Nat} {v : Value} {b : Nat → UInt8} (w : World) (hrow : RowF w B 5 v n (byt b)) :
    Calls Try.prog 33 #[v] w fun e w' => ∃ u, e = .returned (.tuple #[u, .int .i64 (blkC n)]) ∧ RowB w' w.heap.size 89 u (blkN n) b ∧ Below w.heap.size w w' := by
  obtain ⟨a, cap, rfl, _, _, _⟩ := hrow.form
  have hs := hrow.byteS
  clear hrow
  by_cases hn : n ≤ 2000
  · have D := isData a n cap w
    rw [decide_eq_true (show (n : Int) ≤ 2000 by omega)] at D
    have D := Lib.hid D
    by_cases h16 : n % 16 = 0
    · obtain ⟨hv, hk⟩ := blk_some hn h16
      have e1 := tmod16 h16
      have C := Lib.hid (blocksOf w hs (m := n / 16) (by omega) (by omega))
      have Hv := Lib.hid hv; clear hv; have Hk := Lib.hid hk; clear hk
      clear hs h16
      go_enter Try.func33, Try.ntmps33
      go_wp2_with fail
      refine D.out.mono ?_
      rintro e wx ⟨rfl, rfl⟩
      go_wp2_with fail
      refine C.out.mono ?_
      rintro e wx ⟨u, rfl, hr, hb⟩
      have Hr := Lib.hid hr; clear hr; have Hb := Lib.hid hb; clear hb
      go_wp2_with fail
      go_ret2
      exact ⟨_, ret_pairK rfl Hk.out.symm, by rw [Hv.out]; exact Hr.out, Hb.out⟩
    · obtain ⟨hv, hk⟩ := blk_odd hn h16
      obtain ⟨r, e1, e2⟩ := tmod16' h16
      have Hv := Lib.hid hv; clear hv; have Hk := Lib.hid hk; clear hk
      clear hs h16
      go_enter Try.func33, Try.ntmps33
      go_wp2_with fail
      refine D.out.mono ?_
      rintro e wx ⟨rfl, rfl⟩
      go_wp2_with fail
      go_ret2
      exact ⟨_, ret_pairK rfl Hk.out.symm, RowB.nil Hv.out, Below.refl _ _⟩
  · have D := isData a n cap w
    rw [decide_eq_false (show ¬ (n : Int) ≤ 2000 by omega)] at D
    have D := Lib.hid D
    obtain ⟨hv, hk⟩ := blk_not hn
    have Hv := Lib.hid hv; clear hv; have Hk := Lib.hid hk; clear hk
    clear hs
    go_enter Try.func33, Try.ntmps33
    go_wp2_with fail
    refine D.out.mono ?_
    rintro e wx ⟨rfl, rfl⟩
    go_wp2_with fail
    go_ret2
    exact ⟨_, ret_pairK rfl Hk.out.symm, RowB.nil Hv.out, Below.refl _ _⟩
set_option maxRecDepth 100000 in
set_option maxHeartbeats 1600000 in
theorem fnExactBlocksOf.walk (a0 : Option Addr) (n cap : Nat) (b : Nat → UInt8) (w : World) (hs : ByteS w a0 n cap b) :
    Calls Try.prog 8 #[.slice a0 n cap] w fun e w' => e = .returned (.bool true) ∧ Below w.heap.size w w' := by
  by_cases hn : n ≤ 1048576
  · have hn' : ¬ (1048576 : Int) < (n : Int) := by omega
    have HS := Lib.hid hs
    clear hs
    go_enter Try.func8, Try.ntmps8
    have l := Lib.hid (Below.refl w.heap.size w)
    go_wp2_with fail
    refine (toByteS a0 n cap b _ (HS.out.below l.out) hn).mono ?_
    rintro e wx ⟨vra, rfl, hr, hb⟩
    have hr := hr.mono (show w.heap.size ≤ _ from l.out.size)
    have l := carryS l hb
    have ra := Lib.hid hr
    clear hr hb
    go_wp2_with fail
    refine (specBlocksOf _ ra.out).mono ?_
    rintro e wx ⟨vw, rfl, hr, hb⟩
    have hr := hr.mono (show w.heap.size ≤ _ from l.out.size)
    have l := carryS l hb
    have rw := Lib.hid hr
    clear hr hb ra
    go_wp2_with fail
    refine (toByteS a0 n cap b _ (HS.out.below l.out) hn).mono ?_
    rintro e wx ⟨vx, rfl, hr, hb⟩
    have n1 := Lib.hid (owns_apart _ (fun k hk => (rw.out.lt k hk).2) (fun k hk => (hr.lt k hk).1))
    have hr := hr.mono (show w.heap.size ≤ _ from l.out.size)
    have rw := carryK rw hb
    have l := carryS l hb
    have rx := Lib.hid hr
    clear hr hb
    go_wp2_with fail
    refine (implBlocksOf _ rx.out).mono ?_
    rintro e wx ⟨vg, rfl, hr, hb⟩
    have n2 := Lib.hid (owns_apart' _ (fun k hk => (hr.lt k hk).1) (fun k hk => (rx.out.lt k hk).2))
    have n3 := Lib.hid (owns_apart _ (fun k hk => (rw.out.lt k hk).2) (fun k hk => (hr.lt k hk).1))
    have hr := hr.mono (show w.heap.size ≤ _ from l.out.size)
    have rw := carryK rw hb
    have rx := carryR rx hb
    have l := carryS l hb
    have rg := Lib.hid hr
    clear hr hb
    go_wp2_with fail
    refine (eqBlockS _ rg.out rw.out).mono ?_
    rintro e wx ⟨rfl, hb⟩
    have rw := carryK rw hb
    have rx := carryR rx hb
    have rg := carryK rg hb
    have l := carryS l hb
    clear hb
    go_wp2_with fail
    refine (toByteS a0 n cap b _ (HS.out.below l.out) hn).mono ?_
    rintro e wx ⟨vy, rfl, hr, hb⟩
    have hr := hr.mono (show w.heap.size ≤ _ from l.out.size)
    have rw := carryK rw hb
    have rx := carryR rx hb
    have rg := carryK rg hb
    have l := carryS l hb
    have ry := Lib.hid hr
    clear hr hb
    go_wp2_with fail
    refine (eqByteS _ rx.out ry.out).mono ?_
    rintro e wx ⟨rfl, hb⟩
    have rw := carryK rw hb
    have rx := carryR rx hb
    have rg := carryK rg hb
    have l := carryS l hb
    clear hb ry
    go_wp2_with fail
    refine (markByteS (q0 := 1) _ rx.out (by omega) (by omega)).mono ?_
    rintro e wx ⟨rfl, hr, hg⟩
    have l := Lib.hid (below_grown l.out hg (by have := l.out.size; omega) (fun q hq => by have := (hr.lt q hq).1; omega))
    have rw := Lib.hid (rw.out.kept hg n1.out)
    have rg := Lib.hid (rg.out.kept hg n2.out)
    have hpos : ¬ (1 : Int) + (n : Int) < 0 := by omega
    clear hr hg rx
    go_wp2_with fail
    refine (eqBlockS _ rg.out rw.out).mono ?_
    rintro e wx ⟨rfl, hb⟩
    have rw := carryK rw hb
    have rg := carryK rg hb
    have l := carryS l hb
    clear hb
    go_wp2_with fail
    have hle := blk_le n
    refine (markBlockS (q0 := 1) _ rg.out (by omega) (by omega)).mono ?_
    rintro e wx ⟨rfl, hr, hg⟩
    have l := Lib.hid (below_grown l.out hg (by have := l.out.size; omega) (fun q hq => by have := (hr.lt q hq).1; omega))
    have rw := Lib.hid (rw.out.kept hg n3.out)
    have rg := Lib.hid hr
    clear hr hg
    have hpos2 : ¬ (1 : Int) + (blkN n : Int) * 16 < 0 := by omega
    go_wp2_with fail
    refine (heldBlockS (q0 := 1) _ rg.out (by omega) (by omega)).mono ?_
    rintro e wx ⟨rfl, hb⟩
    have rw := carryK rw hb
    have rg := carryK rg hb
    have l := carryS l hb
    clear hb
    go_wp2_with fail
    refine (toByteS a0 n cap b _ (HS.out.below l.out) hn).mono ?_
    rintro e wx ⟨vy, rfl, hr, hb⟩
    have hr := hr.mono (show w.heap.size ≤ _ from l.out.size)
    have rw := carryK rw hb
    have rg := carryK rg hb
    have l := carryS l hb
    have ry := Lib.hid hr
    clear hr hb
    go_wp2_with fail
    refine (implBlocksOf _ ry.out).mono ?_
    rintro e wx ⟨vh, rfl, hr, hb⟩
    have hr := hr.mono (show w.heap.size ≤ _ from l.out.size)
    have rw := carryK rw hb
    have rg := carryK rg hb
    have l := carryS l hb
    have rh := Lib.hid hr
    clear hr hb ry
    go_wp2_with fail
    refine (eqBlockS _ rh.out rw.out).mono ?_
    rintro e wx ⟨rfl, hb⟩
    have rg := carryK rg hb
    have l := carryS l hb
    clear hb rw
    go_wp2_with fail
    refine (heldBlockS (q0 := 1) _ rg.out (by omega) (by omega)).mono ?_
    rintro e wx ⟨rfl, hb⟩
    have l := carryS l hb
    clear hb
    go_wp2_with fail
    go_ret
    exact ⟨rfl, l.out⟩
  · have hn' : (1048576 : Int) < (n : Int) := by omega
    clear hs
    go_enter Try.func8, Try.ntmps8
    go_wp2
    go_ret
    exact ⟨rfl, Below.refl _ _⟩
end Go.Proofs.Ytnkfghoajpghkaa
