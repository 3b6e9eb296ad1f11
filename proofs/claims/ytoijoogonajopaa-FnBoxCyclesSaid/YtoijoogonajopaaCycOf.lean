/- Contracts: cycles of a box, by the program and by the reference, and the walk of the law. No condition. -/
import Derived.Test.YtoijoogonajopaaRows
import Derived.Test.YtoijoogonajopaaLaws
import Derived.Test.YtoijoogonajopaaCycI
set_option linter.unusedVariables false
namespace Go.Proofs.Ytoijoogonajopaa
open Go.RowKit Plain
def cyL (b : Nat → UInt8) : List Int := if permB b = true then flatTo (cycSt b 256).2 256 else []
def cyC (b : Nat → UInt8) : Int := if permB b = true then 0 else 5
theorem cyL_len (b : Nat → UInt8) : (cyL b).length ≤ 256 := by
  unfold cyL
  split
  · rw [← sort_flat _ (cycSt_le b 256), List.length_mergeSort]
    have := newL_len (cycSt b 256).2
    rw [cycSt_len] at this
    exact this
  · simp
theorem cy_good {b : Nat → UInt8} (h : permB b = true) : cyL b = flatTo (cycSt b 256).2 256 ∧ cyC b = 0 := by
  unfold cyL cyC
  rw [if_pos h, if_pos h]
  exact ⟨rfl, rfl⟩
theorem cy_bad {b : Nat → UInt8} (h : permB b = false) : cyL b = [] ∧ cyC b = 5 := by
  unfold cyL cyC
  rw [h]
  exact ⟨rfl, rfl⟩
theorem ret_pairC {v v' : Value} {n m : Int} (h : v = v') (h2 : n = m) : Ending.returned (.tuple #[v, .int .i64 n]) = .returned (.tuple #[v', .int .i64 m]) := by rw [h, h2]
theorem rowF_nilC {w : World} {B : Nat} {f : Nat → Value} {n : Nat} (hn : n = 0) : RowF w B 2 (.slice none 0 0) n f := by
  subst hn
  exact World.ownsRow_nil w B _ _
theorem LL.rowC {w : World} {B : Nat} {e : TypeId} {v : Value} {l l' : List Int} (h : LL w B e v l) (hl : l' = l) : RowF w B e v l'.length (lng (fun i => l'.getD i 0)) := by
  subst hl
  exact h.rowF
set_option maxRecDepth 100000 in
set_option maxHeartbeats 800000 in
theorem specCyclesOf (b : Nat → UInt8) (w : World) :
    Calls Try.prog 9 #[.agg (byteRow 256 b)] w fun e w' => ∃ v, e = .returned (.tuple #[v, .int .i64 (cyC b)]) ∧ RowF w' w.heap.size 2 v (cyL b).length (lng (fun i => (cyL b).getD i 0)) ∧ Below w.heap.size w w' := by
  have k0 := Lib.hid (Blk.new w 25 (byteRow 256 b))
  have l := Lib.hid ((Below.refl w.heap.size w).alloc (Nat.le_refl _) (.cells (byteRow 256 b) 25))
  cases hp : permB b with
  | true =>
    obtain ⟨hv, hc⟩ := cy_good hp
    have hp' := Lib.hid hp
    have C := fun w : World => l02Is b w
    rw [hp] at C
    have C := Lib.hid C
    clear hp
    have Hv := Lib.hid hv; clear hv; have Hc := Lib.hid hc; clear hc
    go_enter Try.func9, Try.ntmps9
    go_wp2_with (refine wpList_loadR rfl _ _ rfl _ rfl k0.out Try.underlying25 rfl size25 (byteRow_size _ _) ?_)
    refine (C.out _).mono ?_
    rintro e wx ⟨rfl, hb⟩
    have k0 := carryB k0 hb
    have l := carryS l hb
    clear hb
    go_wp2_with (refine wpList_loadR rfl _ _ rfl _ rfl k0.out Try.underlying25 rfl size25 (byteRow_size _ _) ?_)
    refine (l02Cycles b _).mono ?_
    rintro e wx ⟨v, rfl, hl, hb⟩
    have hr := (hl.mono (show w.heap.size ≤ _ from by have := l.out.size; omega)).rowC Hv.out
    have l := carryS l hb
    clear hl hb
    have Hr := Lib.hid hr; clear hr
    go_wp2_with fail
    go_ret2
    exact ⟨_, ret_pairC rfl Hc.out.symm, Hr.out, l.out⟩
  | false =>
    obtain ⟨hv, hc⟩ := cy_bad hp
    have C := fun w : World => l02Is b w
    rw [hp] at C
    have C := Lib.hid C
    clear hp
    have Hv := Lib.hid hv; clear hv; have Hc := Lib.hid hc; clear hc
    go_enter Try.func9, Try.ntmps9
    go_wp2_with (refine wpList_loadR rfl _ _ rfl _ rfl k0.out Try.underlying25 rfl size25 (byteRow_size _ _) ?_)
    refine (C.out _).mono ?_
    rintro e wx ⟨rfl, hb⟩
    have l := carryS l hb
    clear hb
    go_wp2_with fail
    go_ret2
    exact ⟨_, ret_pairC rfl Hc.out.symm, rowF_nilC (by rw [Hv.out]; rfl), l.out⟩
set_option maxRecDepth 100000 in
set_option maxHeartbeats 800000 in
theorem implCyclesOf (b : Nat → UInt8) (w : World) :
    Calls Try.prog 10 #[.agg (byteRow 256 b)] w fun e w' => ∃ v, e = .returned (.tuple #[v, .int .i64 (cyC b)]) ∧ RowF w' w.heap.size 2 v (cyL b).length (lng (fun i => (cyL b).getD i 0)) ∧ Below w.heap.size w w' := by
  have k0 := Lib.hid (Blk.new w 25 (byteRow 256 b))
  have l := Lib.hid ((Below.refl w.heap.size w).alloc (Nat.le_refl _) (.cells (byteRow 256 b) 25))
  cases hp : permB b with
  | true =>
    obtain ⟨hv, hc⟩ := cy_good hp
    have C := fun w : World => implIsPermutation b w
    rw [hp] at C
    have C := Lib.hid C
    clear hp
    have Hv := Lib.hid hv; clear hv; have Hc := Lib.hid hc; clear hc
    go_enter Try.func10, Try.ntmps10
    go_wp2_with (refine wpList_loadR rfl _ _ rfl _ rfl k0.out Try.underlying25 rfl size25 (byteRow_size _ _) ?_)
    refine (C.out _).mono ?_
    rintro e wx ⟨rfl, hb⟩
    have k0 := carryB k0 hb
    have l := carryS l hb
    clear hb
    go_wp2_with (refine wpList_loadR rfl _ _ rfl _ rfl k0.out Try.underlying25 rfl size25 (byteRow_size _ _) ?_)
    refine (boxCycles b _).mono ?_
    rintro e wx ⟨v, rfl, hl, hb⟩
    have hr := (hl.mono (show w.heap.size ≤ _ from by have := l.out.size; omega)).rowC Hv.out
    have l := carryS l hb
    clear hl hb
    have Hr := Lib.hid hr; clear hr
    go_wp2_with fail
    go_ret2
    exact ⟨_, ret_pairC rfl Hc.out.symm, Hr.out, l.out⟩
  | false =>
    obtain ⟨hv, hc⟩ := cy_bad hp
    have C := fun w : World => implIsPermutation b w
    rw [hp] at C
    have C := Lib.hid C
    clear hp
    have Hv := Lib.hid hv; clear hv; have Hc := Lib.hid hc; clear hc
    go_enter Try.func10, Try.ntmps10
    go_wp2_with (refine wpList_loadR rfl _ _ rfl _ rfl k0.out Try.underlying25 rfl size25 (byteRow_size _ _) ?_)
    refine (C.out _).mono ?_
    rintro e wx ⟨rfl, hb⟩
    have l := carryS l hb
    clear hb
    go_wp2_with fail
    go_ret2
    exact ⟨_, ret_pairC rfl Hc.out.symm, rowF_nilC (by rw [Hv.out]; rfl), l.out⟩
set_option maxRecDepth 100000 in
set_option maxHeartbeats 1600000 in
theorem fnExactCyclesOf.walk (b : Nat → UInt8) (w : World) :
    Calls Try.prog 4 #[.agg (byteRow 256 b)] w fun e w' => e = .returned (.bool true) ∧ Below w.heap.size w w' := by
  go_enter Try.func4, Try.ntmps4
  have k0 := Lib.hid (Blk.new w 22 (byteRow 256 b))
  have l := Lib.hid ((Below.refl w.heap.size w).alloc (Nat.le_refl _) (.cells (byteRow 256 b) 22))
  go_wp2_with (refine wpList_loadH rfl _ _ rfl _ rfl (by assumption) Try.underlying22 rfl size22 (byteRow_size _ _) ?_)
  refine (toBox _ _).mono ?_
  rintro e wx ⟨rfl, hb⟩
  have k0 := carryB k0 hb
  have l := carryS l hb
  clear hb
  go_wp2_with (refine wpList_loadH rfl _ _ rfl _ rfl (by assumption) Try.underlying22 rfl size22 (byteRow_size _ _) ?_)
  refine (specCyclesOf _ _).mono ?_
  rintro e wx ⟨vw, rfl, hr, hb⟩
  have hr := hr.mono (show w.heap.size + 1 ≤ _ from by have := k0.out.lt; omega)
  have k0 := carryB k0 hb
  have l := carryS l hb
  have rw := Lib.hid hr
  clear hr hb
  go_wp2_with (refine wpList_loadH rfl _ _ rfl _ rfl (by assumption) Try.underlying22 rfl size22 (byteRow_size _ _) ?_)
  refine (toBox _ _).mono ?_
  rintro e wx ⟨rfl, hb⟩
  have k0 := carryB k0 hb
  have l := carryS l hb
  have rw := carryR rw hb
  clear hb
  go_wp2_with (refine wpList_loadH rfl _ _ rfl _ rfl (by assumption) Try.underlying22 rfl size22 (byteRow_size _ _) ?_)
  refine (implCyclesOf _ _).mono ?_
  rintro e wx ⟨vg, rfl, hr, hb⟩
  have ne := Lib.hid (rows_apart rw.out hr (by omega))
  have hr := hr.mono (show w.heap.size + 1 ≤ _ from by have := k0.out.lt; omega)
  have k0 := carryB k0 hb
  have l := carryS l hb
  have rw := carryR rw hb
  have rg := Lib.hid hr
  clear hr hb
  go_wp2_with (refine wpList_loadH rfl _ _ rfl _ rfl (by assumption) Try.underlying22 rfl size22 (byteRow_size _ _) ?_)
  refine (eqInt64S _ rg.out rw.out).mono ?_
  rintro e wx ⟨rfl, hb⟩
  have k0 := carryB k0 hb
  have l := carryS l hb
  have rw := carryR rw hb
  have rg := carryR rg hb
  clear hb
  go_wp2_with (refine wpList_loadH rfl _ _ rfl _ rfl (by assumption) Try.underlying22 rfl size22 (byteRow_size _ _) ?_)
  refine (markInt64S (q0 := 1) _ rg.out (by omega) (by have := cyL_len b; omega)).mono ?_
  rintro e wx ⟨rfl, hr, hg⟩
  have k0 := Lib.hid (k0.out.grown hg (fun hq => by have := (hr.lt _ hq.symm).1; omega))
  have l := Lib.hid (below_grown l.out hg (by have := l.out.size; omega) (fun q hq => by have := (hr.lt q hq).1; omega))
  have rw := Lib.hid (rw.out.kept hg ne.out)
  have rg := Lib.hid hr
  clear hr hg
  go_wp2_with (refine wpList_loadH rfl _ _ rfl _ rfl (by assumption) Try.underlying22 rfl size22 (byteRow_size _ _) ?_)
  refine (heldInt64S (q0 := 1) _ rg.out (by omega) (by have := cyL_len b; omega)).mono ?_
  rintro e wx ⟨rfl, hb⟩
  have k0 := carryB k0 hb
  have l := carryS l hb
  have rw := carryR rw hb
  have rg := carryR rg hb
  clear hb
  go_wp2_with (refine wpList_loadH rfl _ _ rfl _ rfl (by assumption) Try.underlying22 rfl size22 (byteRow_size _ _) ?_)
  refine (toBox _ _).mono ?_
  rintro e wx ⟨rfl, hb⟩
  have k0 := carryB k0 hb
  have l := carryS l hb
  have rw := carryR rw hb
  have rg := carryR rg hb
  clear hb
  go_wp2_with (refine wpList_loadH rfl _ _ rfl _ rfl (by assumption) Try.underlying22 rfl size22 (byteRow_size _ _) ?_)
  refine (implCyclesOf _ _).mono ?_
  rintro e wx ⟨vh, rfl, hr, hb⟩
  have hr := hr.mono (show w.heap.size + 1 ≤ _ from by have := k0.out.lt; omega)
  have k0 := carryB k0 hb
  have l := carryS l hb
  have rw := carryR rw hb
  have rg := carryR rg hb
  have rh := Lib.hid hr
  clear hr hb
  go_wp2_with (refine wpList_loadH rfl _ _ rfl _ rfl (by assumption) Try.underlying22 rfl size22 (byteRow_size _ _) ?_)
  refine (eqInt64S _ rh.out rw.out).mono ?_
  rintro e wx ⟨rfl, hb⟩
  have k0 := carryB k0 hb
  have l := carryS l hb
  have rw := carryR rw hb
  have rg := carryR rg hb
  clear hb
  go_wp2_with (refine wpList_loadH rfl _ _ rfl _ rfl (by assumption) Try.underlying22 rfl size22 (byteRow_size _ _) ?_)
  refine (heldInt64S (q0 := 1) _ rg.out (by omega) (by have := cyL_len b; omega)).mono ?_
  rintro e wx ⟨rfl, hb⟩
  have k0 := carryB k0 hb
  have l := carryS l hb
  clear hb
  go_wp2_with (refine wpList_loadH rfl _ _ rfl _ rfl (by assumption) Try.underlying22 rfl size22 (byteRow_size _ _) ?_)
  go_ret
  exact ⟨rfl, l.out⟩
end Go.Proofs.Ytoijoogonajopaa
