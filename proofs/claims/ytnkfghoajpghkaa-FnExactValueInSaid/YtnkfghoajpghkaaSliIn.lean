/- Contracts: the laws' copies of slices that came in. No condition. -/
import Derived.Test.YtnkfghoajpghkaaRows
import Derived.Test.YtnkfghoajpghkaaSlices
namespace Go.Proofs.Ytnkfghoajpghkaa
open Go.RowKit
theorem ByteS.below {w w' : World} {a : Option Addr} {n cap : Nat} {b : Nat → UInt8} (h : ByteS w a n cap b) (hb : Below w.heap.size w w') : ByteS w' a n cap b :=
  ⟨h.1, h.2.1, h.2.2.imp id fun ⟨g, off, e, hg, hc⟩ => ⟨g, off, e, Nat.lt_of_lt_of_le hg hb.size, fun i hi => (hb.cell (p := ⟨g, off + i, none⟩) hg).trans (hc i hi)⟩⟩
theorem LongS.below {w w' : World} {a : Option Addr} {n cap : Nat} {b : Nat → Int} (h : LongS w a n cap b) (hb : Below w.heap.size w w') : LongS w' a n cap b :=
  ⟨h.1, h.2.1, h.2.2.1, h.2.2.2.imp id fun ⟨g, off, e, hg, hc⟩ => ⟨g, off, e, Nat.lt_of_lt_of_le hg hb.size, fun i hi => (hb.cell (p := ⟨g, off + i, none⟩) hg).trans (hc i hi)⟩⟩
set_option maxRecDepth 100000 in
set_option maxHeartbeats 400000 in
theorem toInt64S (a : Option Addr) (n cap : Nat) (b : Nat → Int) (w : World) (h : LongS w a n cap b) (hn : n ≤ 1048576) :
    Calls Try.prog 26 #[.slice a n cap] w fun e w' => ∃ v, e = .returned v ∧ RowF w' w.heap.size 2 v n (lng b) ∧ Below w.heap.size w w' := by
  obtain ⟨i0, hi, hz, hsz, hby⟩ := info_parts info_long
  have hsrc := h.2.2.2
  clear h
  rcases Nat.eq_zero_or_pos n with h0 | h0
  · subst h0
    clear hsrc
    go_enter Try.func26, Try.ntmps26
    go_wp2_with (at_make; refine wpList_makeF rfl _ _ _ rfl w.heap.size 2 i0 (.int .i64 0) Try.underlying36 hi hz hsz (by omega) rfl 0 rfl rfl (by omega) w.heap.size rfl (by omega) ?_; intro wy hr hg; have RR := Lib.hid hr; have GG := Lib.hid hg; clear hr hg)
    go_loopw [4] (fun i wr => i = .int .i64 0 ∧ wr = wy) (fun _ _ => 0)
    case atStart => exact ⟨rfl, rfl⟩
    case round =>
      obtain ⟨rfl, rfl⟩ := hrel
      go_wp2
      go_ret
      exact ⟨_, rfl, RR.out.congr fun i hi => absurd hi (Nat.not_lt_zero i), below_grown (Below.refl _ _) GG.out (Nat.le_refl _) (fun _ h => by cases h)⟩
  · obtain ⟨g, off, rfl, hg, hcell⟩ := hsrc.resolve_left (by omega)
    clear hsrc
    have Hcell := Lib.hid hcell; clear hcell
    go_enter Try.func26, Try.ntmps26
    go_wp2_with (at_make; refine wpList_makeF rfl _ _ _ rfl w.heap.size 2 i0 (.int .i64 0) Try.underlying36 hi hz hsz (by omega) rfl n rfl rfl (by omega) w.heap.size rfl (by omega) ?_; intro wy hr hg; have RR := Lib.hid hr; have GG := Lib.hid hg; clear hr hg)
    go_loopw [4] (fun i wr => ∃ k : Nat, k ≤ n ∧ i = .int .i64 k ∧ RowF wr w.heap.size 2 (.slice (some ⟨w.heap.size, 0, none⟩) n n) n (lng (fun i => if i < k then b i else 0)) ∧ Below w.heap.size w wr)
      (fun i _ => n - (intOf i).toNat)
    case atStart => exact ⟨0, by omega, rfl, RR.out.congr fun i hi => by simp [lng], below_grown (Below.refl _ _) GG.out (Nat.le_refl _) (fun _ h => by cases h)⟩
    case round =>
      obtain ⟨k, hk, rfl, hr, hb⟩ := hrel
      by_cases hlt : k < n
      · have hki : (k : Int) < n := by omega
        have c0 : wr.cell? ⟨g, off + k, none⟩ = some (.int .i64 (b k)) := (hb.cell (p := ⟨g, off + k, none⟩) hg).trans (Hcell.out k hlt)
        have c1 : wr.cell? ⟨w.heap.size, k, none⟩ = some _ := hr.at_ hlt
        have f1 := hr.fz k
        have Hr := Lib.hid hr; clear hr; have Hb := Lib.hid hb; clear hb
        go_wp2
        go_roundw
        case rel => exact ⟨k + 1, by omega, by go_num, by have := Hr.out.put k (.int .i64 (b k)); rw [lng_put, upd_fill] at this; exact this, Hb.out.setCell (p := ⟨w.heap.size, k, none⟩) (by show _ ≤ w.heap.size; omega) _⟩
        case measure => simp [intOf]; omega
      · obtain rfl : k = n := by omega
        have Hr := Lib.hid hr; clear hr; have Hb := Lib.hid hb; clear hb
        go_wp2
        go_ret
        exact ⟨_, rfl, Hr.out.congr fun i hi => by simp [lng, hi], Hb.out⟩
set_option maxRecDepth 100000 in
set_option maxHeartbeats 400000 in
theorem toByteS (a : Option Addr) (n cap : Nat) (b : Nat → UInt8) (w : World) (h : ByteS w a n cap b) (hn : n ≤ 1048576) :
    Calls Try.prog 13 #[.slice a n cap] w fun e w' => ∃ v, e = .returned v ∧ RowF w' w.heap.size 5 v n (byt b) ∧ Below w.heap.size w w' := by
  obtain ⟨i0, hi, hz, hsz, hby⟩ := info_parts info_byte
  have hsrc := h.2.2
  clear h
  rcases Nat.eq_zero_or_pos n with h0 | h0
  · subst h0
    clear hsrc
    go_enter Try.func13, Try.ntmps13
    go_wp2_with (at_make; refine wpList_makeF rfl _ _ _ rfl w.heap.size 5 i0 (.int .u8 0) Try.underlying22 hi hz hsz (by omega) rfl 0 rfl rfl (by omega) w.heap.size rfl (by omega) ?_; intro wy hr hg; have RR := Lib.hid hr; have GG := Lib.hid hg; clear hr hg)
    go_loopw [4] (fun i wr => i = .int .i64 0 ∧ wr = wy) (fun _ _ => 0)
    case atStart => exact ⟨rfl, rfl⟩
    case round =>
      obtain ⟨rfl, rfl⟩ := hrel
      go_wp2
      go_ret
      exact ⟨_, rfl, RR.out.congr fun i hi => absurd hi (Nat.not_lt_zero i), below_grown (Below.refl _ _) GG.out (Nat.le_refl _) (fun _ h => by cases h)⟩
  · obtain ⟨g, off, rfl, hg, hcell⟩ := hsrc.resolve_left (by omega)
    clear hsrc
    have Hcell := Lib.hid hcell; clear hcell
    go_enter Try.func13, Try.ntmps13
    go_wp2_with (at_make; refine wpList_makeF rfl _ _ _ rfl w.heap.size 5 i0 (.int .u8 0) Try.underlying22 hi hz hsz (by omega) rfl n rfl rfl (by omega) w.heap.size rfl (by omega) ?_; intro wy hr hg; have RR := Lib.hid hr; have GG := Lib.hid hg; clear hr hg)
    go_loopw [4] (fun i wr => ∃ k : Nat, k ≤ n ∧ i = .int .i64 k ∧ RowF wr w.heap.size 5 (.slice (some ⟨w.heap.size, 0, none⟩) n n) n (byt (fun i => if i < k then b i else 0)) ∧ Below w.heap.size w wr)
      (fun i _ => n - (intOf i).toNat)
    case atStart => exact ⟨0, by omega, rfl, RR.out.congr fun i hi => by simp [byt], below_grown (Below.refl _ _) GG.out (Nat.le_refl _) (fun _ h => by cases h)⟩
    case round =>
      obtain ⟨k, hk, rfl, hr, hb⟩ := hrel
      by_cases hlt : k < n
      · have hki : (k : Int) < n := by omega
        have c0 : wr.cell? ⟨g, off + k, none⟩ = some (.int .u8 ((b k).toNat : Int)) := (hb.cell (p := ⟨g, off + k, none⟩) hg).trans (Hcell.out k hlt)
        have c1 : wr.cell? ⟨w.heap.size, k, none⟩ = some _ := hr.at_ hlt
        have f1 := hr.fz k
        have Hr := Lib.hid hr; clear hr; have Hb := Lib.hid hb; clear hb
        go_wp2
        go_roundw
        case rel => exact ⟨k + 1, by omega, by go_num, by have := Hr.out.put k (.int .u8 ((b k).toNat : Int)); rw [byt_put, upd_fill] at this; exact this, Hb.out.setCell (p := ⟨w.heap.size, k, none⟩) (by show _ ≤ w.heap.size; omega) _⟩
        case measure => simp [intOf]; omega
      · obtain rfl : k = n := by omega
        have Hr := Lib.hid hr; clear hr; have Hb := Lib.hid hb; clear hb
        go_wp2
        go_ret
        exact ⟨_, rfl, Hr.out.congr fun i hi => by simp [byt, hi], Hb.out⟩
end Go.Proofs.Ytnkfghoajpghkaa
