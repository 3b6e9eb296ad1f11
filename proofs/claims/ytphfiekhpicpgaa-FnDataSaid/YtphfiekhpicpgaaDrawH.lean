/- Contracts: the drawings of data for texts and for blocks. No condition. -/
import Derived.Test.YtphfiekhpicpgaaRows
import Derived.Test.YtphfiekhpicpgaaDrawD
set_option linter.unusedVariables false
namespace Go.Proofs.Ytphfiekhpicpgaa
open Go.RowKit Plain
theorem LB.rowB {w : World} {B B' : Nat} {e : TypeId} {v : Value} {l : List UInt8} (h : LB w B e v l) (hB : B' ≤ B) : RowF w B' e v l.length (byt (fun i => l.getD i 0)) := h.rowF.mono hB
set_option maxRecDepth 100000 in
set_option maxHeartbeats 1600000 in
theorem drawHexOf {a : Option Addr} {n cap : Nat} {b : Nat → UInt8} (w : World) (hs : ByteS w a n cap b) (hn : n ≤ 4096) :
    Calls Try.prog 17 #[.slice a n cap] w fun e w' => ∃ v : Value, e = .returned v ∧ (∃ (m : Nat) (f : Nat → UInt8), m ≤ 2100 ∧ RowF w' w.heap.size 5 v m (byt f)) ∧ Below w.heap.size w w' := by
  obtain ⟨i0, hi, hz, hsz, hby⟩ := info_parts info_byte
  have l := Lib.hid (Below.refl w.heap.size w)
  replace hs := Lib.hid hs
  go_enter Try.func17, Try.ntmps17
  go_wp2_with fail
  refine (l01From _ hs.out hn).mono ?_
  rintro e wx ⟨g, rfl, hS, hb⟩
  have hgB := hS.1
  replace l := carryS l hb
  have S := Lib.hid hS
  clear hb hs hS
  go_wp2_with fail
  refine (l01Next S.out 20 (by omega) (by omega)).mono ?_
  rintro e wy ⟨x, hx, rfl, hS, hg⟩
  replace l := Lib.hid (below_grown l.out hg l.out.size (fun k hk => by injection hk with hk; omega))
  replace S := Lib.hid hS
  clear hS hg
  by_cases h0 : x = 0
  · subst h0
    go_wp2_with fail
    refine (l01Next S.out 2 (by omega) (by omega)).mono ?_
    rintro e wz ⟨y, hy, rfl, hS, hg⟩
    replace l := Lib.hid (below_grown l.out hg l.out.size (fun k hk => by injection hk with hk; omega))
    clear hS hg S
    have hsz2 := l.out.size
    obtain rfl | rfl : y = 0 ∨ y = 1 := by omega
    · go_wp2_with (at_make; refine wpList_makeF rfl _ _ _ rfl w.heap.size 5 i0 (.int .u8 0) Try.underlying22 hi hz hsz (by omega) rfl 2000 rfl rfl (by omega) wz.heap.size rfl hsz2 ?_; intro wy hr hg; have RR := Lib.hid hr; have GG := Lib.hid hg; clear hr hg)
      go_ret
      exact ⟨_, rfl, ⟨2000, fun _ => 0, by omega, RR.out⟩, below_grown l.out GG.out hsz2 (fun _ h => by cases h)⟩
    · go_wp2_with (at_make; refine wpList_makeF rfl _ _ _ rfl w.heap.size 5 i0 (.int .u8 0) Try.underlying22 hi hz hsz (by omega) rfl 2001 rfl rfl (by omega) wz.heap.size rfl hsz2 ?_; intro wy hr hg; have RR := Lib.hid hr; have GG := Lib.hid hg; clear hr hg)
      go_ret
      exact ⟨_, rfl, ⟨2001, fun _ => 0, by omega, RR.out⟩, below_grown l.out GG.out hsz2 (fun _ h => by cases h)⟩
  · have h1 : ((x : Int) == 0) = false := by rw [beq_eq_false_iff_ne]; omega
    clear h0
    go_wp2_with fail
    refine (l01DrawBytes60 S.out).mono ?_
    rintro e wz ⟨v, rfl, ⟨L, hv, hL⟩, hS, hg⟩
    have hsz2 := l.out.size
    have R := Lib.hid (hv.rowB hsz2)
    replace l := Lib.hid (below_grown l.out hg hsz2 (fun k hk => by injection hk with hk; omega))
    clear hS hg hv S
    go_wp2_with fail
    go_ret
    exact ⟨_, rfl, ⟨L.length, _, by omega, R.out⟩, l.out⟩
set_option maxRecDepth 100000 in
set_option maxHeartbeats 1600000 in
theorem drawBlocksOf {a : Option Addr} {n cap : Nat} {b : Nat → UInt8} (w : World) (hs : ByteS w a n cap b) (hn : n ≤ 4096) :
    Calls Try.prog 24 #[.slice a n cap] w fun e w' => ∃ v : Value, e = .returned v ∧ (∃ (m : Nat) (f : Nat → UInt8), m ≤ 2100 ∧ RowF w' w.heap.size 5 v m (byt f)) ∧ Below w.heap.size w w' := by
  obtain ⟨i0, hi, hz, hsz, hby⟩ := info_parts info_byte
  have l := Lib.hid (Below.refl w.heap.size w)
  replace hs := Lib.hid hs
  go_enter Try.func24, Try.ntmps24
  go_wp2_with fail
  refine (l01From _ hs.out hn).mono ?_
  rintro e wx ⟨g, rfl, hS, hb⟩
  have hgB := hS.1
  replace l := carryS l hb
  have S := Lib.hid hS
  clear hb hs hS
  go_wp2_with fail
  refine (l01Next S.out 3 (by omega) (by omega)).mono ?_
  rintro e wy ⟨x, hx, rfl, hS, hg⟩
  replace l := Lib.hid (below_grown l.out hg l.out.size (fun k hk => by injection hk with hk; omega))
  replace S := Lib.hid hS
  clear hS hg
  by_cases h0 : x = 0
  · subst h0
    go_wp2_with fail
    refine (l01DrawBytes70 S.out).mono ?_
    rintro e wz ⟨v, rfl, ⟨L, hv, hL⟩, hS, hg⟩
    have hsz2 := l.out.size
    have R := Lib.hid (hv.rowB hsz2)
    replace l := Lib.hid (below_grown l.out hg hsz2 (fun k hk => by injection hk with hk; omega))
    clear hS hg hv S
    go_wp2_with fail
    go_ret
    exact ⟨_, rfl, ⟨L.length, _, by omega, R.out⟩, l.out⟩
  · have h1 : ((x : Int) == 0) = false := by rw [beq_eq_false_iff_ne]; omega
    clear h0
    go_wp2_with fail
    refine (l01Next S.out 5 (by omega) (by omega)).mono ?_
    rintro e wz ⟨y, hy, rfl, hS, hg⟩
    replace l := Lib.hid (below_grown l.out hg l.out.size (fun k hk => by injection hk with hk; omega))
    replace S := Lib.hid hS
    clear hS hg
    go_wp2_with fail
    refine (pickLit S.out [(y : Int), 125, 126] 3 (by simp) (by simp)).mono ?_
    rintro e wu ⟨i, hii, rfl, hS, hg⟩
    replace l := Lib.hid (below_grown l.out hg l.out.size (fun k hk => by injection hk with hk; omega))
    clear hS hg S
    obtain ⟨q, hq, hq2⟩ : ∃ q : Nat, q ≤ 126 ∧ [(y : Int), 125, 126].getD i 0 = (q : Int) := by
      match i, hii with
      | 0, _ => exact ⟨y, by omega, rfl⟩
      | 1, _ => exact ⟨125, by omega, rfl⟩
      | 2, _ => exact ⟨126, by omega, rfl⟩
    rw [hq2]
    clear hq2 hii hy
    have hsz2 := l.out.size
    obtain ⟨m, hm⟩ : ∃ m : Nat, 16 * q = m := ⟨_, rfl⟩
    have hw : wrap64 (16 * (q : Int)) = (m : Int) := by unfold wrap64; omega
    have hm2 : 16 * (q : Int) = (m : Int) := by omega
    have hmb : m ≤ 2100 := by omega
    clear hm
    go_wp2_with (at_make; refine wpList_makeF rfl _ _ _ rfl w.heap.size 5 i0 (.int .u8 0) Try.underlying22 hi hz hsz (by omega) rfl m rfl rfl (by omega) wu.heap.size rfl hsz2 ?_; intro wy hr hg; have RR := Lib.hid hr; have GG := Lib.hid hg; clear hr hg)
    go_ret
    exact ⟨_, rfl, ⟨m, fun _ => 0, hmb, RR.out⟩, below_grown l.out GG.out hsz2 (fun _ h => by cases h)⟩
end Go.Proofs.Ytphfiekhpicpgaa
