/- Contracts: bytes out of hex texts, by the program and by the reference, and the walk of the law. No condition. -/
import Derived.Test.YtphfiekhpicpgaaRows
import Derived.Test.YtphfiekhpicpgaaLaws
import Derived.Test.YtphfiekhpicpgaaUnhex
set_option linter.unusedVariables false
namespace Go.Proofs.Ytphfiekhpicpgaa
open Go.RowKit
def bytsL (s : ByteArray) : List UInt8 := match unhex s with
  | some l => if l.length ≤ 2000 then l else []
  | none => []
def bytsC (s : ByteArray) : Int := match unhex s with
  | some l => if l.length ≤ 2000 then 0 else 6
  | none => 6
theorem byts_none {s : ByteArray} (h : unhex s = none) : bytsL s = [] ∧ bytsC s = 6 := by
  unfold bytsL bytsC
  rw [h]
  exact ⟨rfl, rfl⟩
theorem byts_not {s : ByteArray} {l : List UInt8} (h : unhex s = some l) (hl : ¬ l.length ≤ 2000) : bytsL s = [] ∧ bytsC s = 6 := by
  unfold bytsL bytsC
  rw [h]
  simp [hl]
theorem byts_some {s : ByteArray} {l : List UInt8} (h : unhex s = some l) (hl : l.length ≤ 2000) : bytsL s = l ∧ bytsC s = 0 := by
  unfold bytsL bytsC
  rw [h]
  simp [hl]
theorem byts_len (s : ByteArray) : (bytsL s).length ≤ 2000 := by
  unfold bytsL
  split
  · split
    · assumption
    · simp
  · simp
theorem ret_pairBV {v v' : Value} {n m : Int} (h : v = v') (h2 : n = m) : Ending.returned (.tuple #[v, .int .i64 n]) = .returned (.tuple #[v', .int .i64 m]) := by rw [h, h2]
theorem rowF_nil {w : World} {B : Nat} {f : Nat → Value} {n : Nat} (hn : n = 0) : RowF w B 5 (.slice none 0 0) n f := by
  subst hn
  exact World.ownsRow_nil w B _ _
theorem LB.rowL {w : World} {B : Nat} {e : TypeId} {v : Value} {l l' : List UInt8} (h : LB w B e v l) (hl : l' = l) : RowF w B e v l'.length (byt (fun i => l'.getD i 0)) := by
  subst hl
  exact h.rowF
theorem isDataB (a : Option Addr) (n cap : Nat) (w : World) :
    Calls Try.prog 63 #[.slice a n cap] w fun e w' => e = .returned (.bool (decide ((n : Int) ≤ 2000))) ∧ w' = w := by
  go_enter Try.func63, Try.ntmps63
  go_wp2
  go_ret
  exact ⟨rfl, rfl⟩
set_option maxRecDepth 100000 in
set_option maxHeartbeats 800000 in
theorem specBytesOf (s : ByteArray) (w : World) (hn : s.size ≤ 5000000000) :
    Calls Try.prog 23 #[.string s] w fun e w' => ∃ v, e = .returned (.tuple #[v, .int .i64 (bytsC s)]) ∧ RowF w' w.heap.size 5 v (bytsL s).length (byt (fun i => (bytsL s).getD i 0)) ∧ Below w.heap.size w w' := by
  go_enter Try.func23, Try.ntmps23
  go_wp2_with fail
  refine (l01Bytes s _ hn).mono ?_
  rintro e wx (⟨v, t, hu, rfl, hl, hb⟩ | ⟨hu, rfl, hb⟩)
  · by_cases h2 : t.length ≤ 2000
    · obtain ⟨hv, hc⟩ := byts_some hu h2
      have hr := hl.rowL hv
      obtain ⟨⟨g, cap, rfl⟩, _⟩ := hl.1, hl.2
      have e1 : ¬ (2000 : Int) < (t.length : Int) := by omega
      clear hl hu h2
      have Hv := Lib.hid hv; clear hv; have Hc := Lib.hid hc; clear hc; have Hr := Lib.hid hr; clear hr; have Hb := Lib.hid hb; clear hb
      go_wp2_with fail
      go_ret2
      exact ⟨_, ret_pairBV rfl Hc.out.symm, Hr.out, Hb.out⟩
    · obtain ⟨hv, hc⟩ := byts_not hu h2
      obtain ⟨⟨g, cap, rfl⟩, _⟩ := hl.1, hl.2
      have e1 : (2000 : Int) < (t.length : Int) := by omega
      clear hl hu h2
      have Hv := Lib.hid hv; clear hv; have Hc := Lib.hid hc; clear hc; have Hb := Lib.hid hb; clear hb
      go_wp2_with fail
      go_ret2
      exact ⟨_, ret_pairBV rfl Hc.out.symm, rowF_nil (by rw [Hv.out]; rfl), Hb.out⟩
  · obtain ⟨hv, hc⟩ := byts_none hu
    clear hu
    have Hv := Lib.hid hv; clear hv; have Hc := Lib.hid hc; clear hc; have Hb := Lib.hid hb; clear hb
    go_wp2_with fail
    go_ret2
    exact ⟨_, ret_pairBV rfl Hc.out.symm, rowF_nil (by rw [Hv.out]; rfl), Hb.out⟩
set_option maxRecDepth 100000 in
set_option maxHeartbeats 800000 in
theorem implBytesOf (s : ByteArray) (w : World) (hn : s.size ≤ 5000000000) :
    Calls Try.prog 20 #[.string s] w fun e w' => ∃ v, e = .returned (.tuple #[v, .int .i64 (bytsC s)]) ∧ RowF w' w.heap.size 5 v (bytsL s).length (byt (fun i => (bytsL s).getD i 0)) ∧ Below w.heap.size w w' := by
  go_enter Try.func20, Try.ntmps20
  go_wp2_with fail
  refine (fromHex s _ hn).mono ?_
  rintro e wx (⟨v, t, hu, rfl, hl, hb⟩ | ⟨hu, rfl, hb⟩)
  · by_cases h2 : t.length ≤ 2000
    · obtain ⟨hv, hc⟩ := byts_some hu h2
      have hr := hl.rowL hv
      obtain ⟨⟨g, cap, rfl⟩, _⟩ := hl.1, hl.2
      have D := isDataB (some ⟨g, 0, none⟩) t.length cap
      rw [decide_eq_true (show (t.length : Int) ≤ 2000 by omega)] at D
      have D := Lib.hid D
      clear hl hu h2
      have Hv := Lib.hid hv; clear hv; have Hc := Lib.hid hc; clear hc; have Hr := Lib.hid hr; clear hr; have Hb := Lib.hid hb; clear hb
      go_wp2_with (go_at_call 63; refine (D.out _).mono ?_; rintro e wx ⟨rfl, rfl⟩)
      go_ret2
      exact ⟨_, ret_pairBV rfl Hc.out.symm, Hr.out, Hb.out⟩
    · obtain ⟨hv, hc⟩ := byts_not hu h2
      obtain ⟨⟨g, cap, rfl⟩, _⟩ := hl.1, hl.2
      have D := isDataB (some ⟨g, 0, none⟩) t.length cap
      rw [decide_eq_false (show ¬ (t.length : Int) ≤ 2000 by omega)] at D
      have D := Lib.hid D
      clear hl hu h2
      have Hv := Lib.hid hv; clear hv; have Hc := Lib.hid hc; clear hc; have Hb := Lib.hid hb; clear hb
      go_wp2_with (go_at_call 63; refine (D.out _).mono ?_; rintro e wx ⟨rfl, rfl⟩)
      go_ret2
      exact ⟨_, ret_pairBV rfl Hc.out.symm, rowF_nil (by rw [Hv.out]; rfl), Hb.out⟩
  · obtain ⟨hv, hc⟩ := byts_none hu
    clear hu
    have Hv := Lib.hid hv; clear hv; have Hc := Lib.hid hc; clear hc; have Hb := Lib.hid hb; clear hb
    go_wp2_with fail
    go_ret2
    exact ⟨_, ret_pairBV rfl Hc.out.symm, rowF_nil (by rw [Hv.out]; rfl), Hb.out⟩
end Go.Proofs.Ytphfiekhpicpgaa
