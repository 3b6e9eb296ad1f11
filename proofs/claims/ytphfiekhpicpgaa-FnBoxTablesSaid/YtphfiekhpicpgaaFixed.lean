/- Contracts: fixed points and differences, by the program and by the reference. No condition. -/
import Derived.Test.YtphfiekhpicpgaaRows
import Derived.Test.YtphfiekhpicpgaaSlices
import Derived.Test.YtphfiekhpicpgaaLaws
import Derived.Test.YtphfiekhpicpgaaPerm
namespace Go.Proofs.Ytphfiekhpicpgaa
open Go.RowKit
def fixTo (b : Nat → UInt8) : Nat → List Int
  | 0 => []
  | k + 1 => if (b k).toNat = k then fixTo b k ++ [(k : Int)] else fixTo b k
theorem fixTo_len (b : Nat → UInt8) : ∀ k, (fixTo b k).length ≤ k
  | 0 => Nat.le_refl _
  | k + 1 => by
    have := fixTo_len b k
    unfold fixTo
    split
    · simp; omega
    · omega
/-- how many of the first k places have the difference -/
def diffTo (b : Nat → UInt8) (d : UInt8) : Nat → Nat → Int
  | 0 => fun _ => 0
  | k + 1 => upd (diffTo b d k) (b k ^^^ b (UInt8.ofNat k ^^^ d).toNat).toNat (diffTo b d k (b k ^^^ b (UInt8.ofNat k ^^^ d).toNat).toNat + 1)
theorem diffTo_le (b : Nat → UInt8) (d : UInt8) : ∀ (k i : Nat), 0 ≤ diffTo b d k i ∧ diffTo b d k i ≤ k
  | 0, _ => ⟨Int.le_refl 0, Int.le_refl 0⟩
  | k + 1, i => by
    unfold diffTo upd
    have h1 := diffTo_le b d k i
    have h2 := diffTo_le b d k (b k ^^^ b (UInt8.ofNat k ^^^ d).toNat).toNat
    split <;> omega
set_option maxRecDepth 100000 in
set_option maxHeartbeats 400000 in
theorem l02Differences (b : Nat → UInt8) (d : UInt8) (w : World) :
    Calls Try.prog 76 #[.agg (byteRow 256 b), .int .u8 (d.toNat : Int)] w fun e w' => ∃ v, e = .returned v ∧ RowF w' (w.heap.size + 1) 2 v 256 (lng (diffTo b d 256)) ∧ Below w.heap.size w w' := by
  obtain ⟨i0, hi, hz, hsz, hby⟩ := info_parts info_long
  go_enter Try.func76, Try.ntmps76
  go_wp2_with (at_make; refine wpList_makeF rfl _ _ _ rfl (w.heap.size + 1) 2 i0 (.int .i64 0) Try.underlying30 hi hz hsz (by omega) rfl 256 rfl rfl (by omega) (w.heap.size + 1) (by simp) (by omega) ?_; intro wy hr hg; have RR := Lib.hid hr; have GG := Lib.hid hg; clear hr hg)
  go_loopw [6] (fun i wr => ∃ k : Nat, k ≤ 256 ∧ i = .int .i64 k ∧ RowF wr (w.heap.size + 1) 2 (.slice (some ⟨w.heap.size + 1, 0, none⟩) 256 256) 256 (lng (diffTo b d k)) ∧ Blk wr w.heap.size 27 (byteRow 256 b) ∧ Below w.heap.size w wr)
    (fun i _ => 256 - (intOf i).toNat)
  case atStart => exact ⟨0, by omega, rfl, RR.out, (Blk.new w _ _).grown GG.out (by simp), below_grown ((Below.refl _ _).alloc (by omega) _) GG.out (by simp) (fun _ h => by cases h)⟩
  case round =>
    obtain ⟨k, hk, rfl, hr, h0, hb⟩ := hrel
    by_cases hlt : k < 256
    · have hki : (k : Int) < 256 := by omega
      have c0 := h0.byteAt hlt
      have ex : bits .xor .u8 (k : Int) (d.toNat : Int) = ((UInt8.ofNat k ^^^ d).toNat : Int) := by rw [← b_xor, toNat_ofNat_lt hlt]
      have hst : diffTo b d (k + 1) = upd (diffTo b d k) (b k ^^^ b (UInt8.ofNat k ^^^ d).toNat).toNat (diffTo b d k (b k ^^^ b (UInt8.ofNat k ^^^ d).toNat).toNat + 1) := rfl
      obtain ⟨p, hp⟩ : ∃ p, UInt8.ofNat k ^^^ d = p := ⟨_, rfl⟩
      rw [hp] at ex hst
      clear hp
      have ex2 : bits .xor .u8 ((b k).toNat : Int) ((b p.toNat).toNat : Int) = ((b k ^^^ b p.toNat).toNat : Int) := b_xor _ _
      obtain ⟨q, hq⟩ : ∃ q, b k ^^^ b p.toNat = q := ⟨_, rfl⟩
      rw [hq] at ex2 hst
      clear hq
      have c1 := h0.byteAt p.toNat_lt
      have c2 : wr.cell? ⟨w.heap.size + 1, q.toNat, none⟩ = some (.int .i64 (diffTo b d k q.toNat)) := hr.at_ q.toNat_lt
      have f2 := hr.fz q.toNat
      have hpl := byte_lt p
      have hql := byte_lt q
      obtain ⟨hd0, hd1⟩ := diffTo_le b d k q.toNat
      have Hr := Lib.hid hr; clear hr; have H0 := Lib.hid h0; clear h0; have Hb := Lib.hid hb; clear hb; have Hst := Lib.hid hst; clear hst
      go_wp2
      go_region
      go_wp2
      go_roundw
      case rel => exact ⟨k + 1, by omega, by go_num, by have := Hr.out.put q.toNat (.int .i64 (diffTo b d k q.toNat + 1)); rw [lng_put, ← Hst.out] at this; exact this, H0.out.farC (by omega) _, (Hb.out.setCell (p := ⟨w.heap.size + 1, q.toNat, none⟩) (by show _ ≤ _ + 1; omega) _).drew⟩
      case measure => simp [intOf]; omega
    · obtain rfl : k = 256 := by omega
      have Hr := Lib.hid hr; clear hr; have H0 := Lib.hid h0; clear h0; have Hb := Lib.hid hb; clear hb
      go_wp2
      go_ret
      exact ⟨_, rfl, Hr.out, Hb.out⟩
set_option maxRecDepth 100000 in
set_option maxHeartbeats 400000 in
theorem specDifferencesOf (b : Nat → UInt8) (d : UInt8) (w : World) :
    Calls Try.prog 37 #[.agg (byteRow 256 b), .int .u8 (d.toNat : Int)] w fun e w' => ∃ v, e = .returned v ∧ RowF w' (w.heap.size + 1) 2 v 256 (lng (diffTo b d 256)) ∧ Below w.heap.size w w' := by
  go_enter Try.func37, Try.ntmps37
  have k0 := Lib.hid (Blk.new w 27 (byteRow 256 b))
  have l := Lib.hid ((Below.refl w.heap.size w).alloc (Nat.le_refl _) (.cells (byteRow 256 b) 27))
  go_wp2_with (refine wpList_loadH rfl _ _ rfl _ rfl (by assumption) Try.underlying27 rfl size27 (byteRow_size _ _) ?_)
  refine (l02Differences _ _ _).mono ?_
  rintro e wx ⟨v, rfl, hr, hb⟩
  have hr := hr.mono (show w.heap.size + 1 ≤ _ from by have := k0.out.lt; omega)
  have l := carryS l hb
  have Hr := Lib.hid hr; clear hr
  clear hb
  go_wp2
  go_ret
  exact ⟨_, rfl, Hr.out, l.out⟩
set_option maxRecDepth 100000 in
set_option maxHeartbeats 400000 in
theorem implDifferencesOf (b : Nat → UInt8) (d : UInt8) (w : World) :
    Calls Try.prog 35 #[.agg (byteRow 256 b), .int .u8 (d.toNat : Int)] w fun e w' => ∃ v, e = .returned v ∧ RowF w' (w.heap.size + 1) 2 v 256 (lng (diffTo b d 256)) ∧ Below w.heap.size w w' := by
  obtain ⟨i0, hi, hz, hsz, hby⟩ := info_parts info_long
  go_enter Try.func35, Try.ntmps35
  have k0 := Lib.hid (Blk.new w 27 (byteRow 256 b))
  go_wp2_with (first | (at_make; refine wpList_makeF rfl _ _ _ rfl (w.heap.size + 1) 2 i0 (.int .i64 0) Try.underlying30 hi hz hsz (by omega) rfl 256 rfl rfl (by omega) (w.heap.size + 1) (by simp) (by omega) ?_; intro wy hr hg; have RR := Lib.hid hr; have GG := Lib.hid hg; have k1 := Lib.hid (k0.out.grown hg (by simp)); clear hr hg) | (refine wpList_loadH rfl _ _ rfl _ rfl (by assumption) Try.underlying27 rfl size27 (byteRow_size _ _) ?_))
  go_loopw [10] (fun i wr => ∃ k : Nat, k ≤ 256 ∧ i = .int .i64 k ∧ RowF wr (w.heap.size + 1) 2 (.slice (some ⟨w.heap.size + 1, 0, none⟩) 256 256) 256 (lng (diffTo b d k)) ∧ Blk wr w.heap.size 27 (byteRow 256 b) ∧ Below w.heap.size w wr)
    (fun i _ => 256 - (intOf i).toNat)
  case atStart => exact ⟨0, by omega, rfl, RR.out, (Blk.new w _ _).grown GG.out (by simp), below_grown ((Below.refl _ _).alloc (by omega) _) GG.out (by simp) (fun _ h => by cases h)⟩
  case round =>
    obtain ⟨k, hk, rfl, hr, h0, hb⟩ := hrel
    by_cases hlt : k < 256
    · have hki : (k : Int) < 256 := by omega
      have ix := fun (w : World) => run_index_row (w := w) .i64 Try.underlying27 sizeU1 (.inl Try.underlying5) hlt (byteRow_at b hlt)
      have ex : bits .xor .u8 (k : Int) (d.toNat : Int) = ((UInt8.ofNat k ^^^ d).toNat : Int) := by rw [← b_xor, toNat_ofNat_lt hlt]
      have hst : diffTo b d (k + 1) = upd (diffTo b d k) (b k ^^^ b (UInt8.ofNat k ^^^ d).toNat).toNat (diffTo b d k (b k ^^^ b (UInt8.ofNat k ^^^ d).toNat).toNat + 1) := rfl
      obtain ⟨p, hp⟩ : ∃ p, UInt8.ofNat k ^^^ d = p := ⟨_, rfl⟩
      rw [hp] at ex hst
      clear hp
      have ex2 : bits .xor .u8 ((b k).toNat : Int) ((b p.toNat).toNat : Int) = ((b k ^^^ b p.toNat).toNat : Int) := b_xor _ _
      obtain ⟨q, hq⟩ : ∃ q, b k ^^^ b p.toNat = q := ⟨_, rfl⟩
      rw [hq] at ex2 hst
      clear hq
      have c1 := h0.byteAt p.toNat_lt
      have c2 : wr.cell? ⟨w.heap.size + 1, q.toNat, none⟩ = some (.int .i64 (diffTo b d k q.toNat)) := hr.at_ q.toNat_lt
      have f2 := hr.fz q.toNat
      have hpl := byte_lt p
      have hql := byte_lt q
      obtain ⟨hd0, hd1⟩ := diffTo_le b d k q.toNat
      have Hr := Lib.hid hr; clear hr; have H0 := Lib.hid h0; clear h0; have Hb := Lib.hid hb; clear hb; have Hst := Lib.hid hst; clear hst
      go_wp2
      go_roundw
      case rel => exact ⟨k + 1, by omega, by go_num, by have := Hr.out.put q.toNat (.int .i64 (diffTo b d k q.toNat + 1)); rw [lng_put, ← Hst.out] at this; exact this, H0.out.farC (by omega) _, Hb.out.setCell (p := ⟨w.heap.size + 1, q.toNat, none⟩) (by show _ ≤ _ + 1; omega) _⟩
      case measure => simp [intOf]; omega
    · obtain rfl : k = 256 := by omega
      have Hr := Lib.hid hr; clear hr; have H0 := Lib.hid h0; clear h0; have Hb := Lib.hid hb; clear hb
      go_wp2
      go_ret
      exact ⟨_, rfl, Hr.out, Hb.out⟩
end Go.Proofs.Ytphfiekhpicpgaa
