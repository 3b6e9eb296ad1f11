/- Contracts: matrices of four rows of four bytes: copies, the unit, the transpose. No condition. -/
import Derived.Test.YtnkfghoajpghkaaLaws
namespace Go.Proofs.Ytnkfghoajpghkaa
open Go.RowKit
theorem mat_step {k : Nat} (b : Nat → UInt8) : byteRow 16 (fun i => if k * 4 ≤ i ∧ i < k * 4 + 4 then b (k * 4 + (i - k * 4)) else if i < k * 4 then b i else 0) = byteRow 16 (fun i => if i < (k + 1) * 4 then b i else 0) := byteRow_congr fun i _ => by
  by_cases h : i < k * 4
  · rw [if_neg (by omega), if_pos h, if_pos (by omega)]
  · by_cases h2 : i < (k + 1) * 4
    · rw [if_pos (by omega), if_pos h2, show k * 4 + (i - k * 4) = i by omega]
    · rw [if_neg (by omega), if_neg h, if_neg h2]
set_option maxRecDepth 100000 in
set_option maxHeartbeats 400000 in
theorem toMatrix (b : Nat → UInt8) (w : World) :
    Calls Try.prog 17 #[.agg (byteRow 16 b)] w fun e w' => e = .returned (.agg (byteRow 16 b)) ∧ Below w.heap.size w w' := by
  go_enter Try.func17, Try.ntmps17
  go_wp2
  go_loopw [4] (fun i wr => ∃ k : Nat, k ≤ 4 ∧ i = .int .i64 k ∧ Blk wr w.heap.size 29 (byteRow 16 b) ∧ Blk wr (w.heap.size + 1) 30 (byteRow 16 (fun _ => 0)) ∧ Blk wr (w.heap.size + 1 + 1) 30 (byteRow 16 (fun i => if i < k * 4 then b i else 0)) ∧ Below w.heap.size w wr)
    (fun i _ => 4 - (intOf i).toNat)
  case atStart =>
    rw [zero16]
    exact ⟨0, by omega, rfl, ((Blk.new w _ _).alloc _).alloc _, (Blk.newAt (by simp)).alloc _, (Blk.newAt (by simp)).eq_ (byteRow_none _ _ _), (((Below.refl _ _).alloc (by omega) _).alloc (by simp) _).alloc (by simp; omega) _⟩
  case round =>
    obtain ⟨k, hk, rfl, k0, k1, k2, l⟩ := hrel
    have k0 := Lib.hid k0
    have k1 := Lib.hid k1
    by_cases hlt : k < 4
    · have hki : (k : Int) < 4 := by omega
      have hq4 : k * 4 + 4 ≤ 16 := by omega
      have k2 := Lib.hid k2
      have l := Lib.hid l
      go_wp2_with (refine wpList_loadM rfl _ _ rfl _ _ rfl k0 hq4 Try.underlying28 rfl size28 ?_)
      refine (toByteA4 _ _).mono ?_
      rintro e wx ⟨rfl, hb⟩
      have k0 := carryB k0 hb
      have k1 := carryB k1 hb
      have k2 := carryB k2 hb
      have l := carryS l hb
      clear hb
      go_wp2_with (with_reducible show wpList _ _ _ _ _ wx; refine wpList_storeM rfl _ _ _ rfl _ _ rfl _ rfl rfl k2 hq4 size28 ?_)
      go_roundw
      case rel => exact ⟨k + 1, by omega, by go_num, k0.out.farM (by omega) _ _, k1.out.farM (by omega) _ _, (k2.out.setM).eq_ (mat_step b), below_setM (by omega) _ _ _ _ l.out⟩
      case measure => simp [intOf]; omega
    · have k2 := Lib.hid (k2.eq_ (byteRow_congr (c := b) fun i hi => if_pos (by omega)))
      have l := Lib.hid l
      go_wp2_with (first | (refine wpList_loadR rfl _ _ rfl _ rfl k2.out Try.underlying30 rfl size30 (byteRow_size _ _) ?_) | (refine wpList_storeR rfl _ _ _ rfl _ _ rfl rfl k1.out size30 (byteRow_size _ _) (byteRow_size _ _) (byteRow_all _ _) ?_))
      refine bodyPost_ret (results_cellB rfl _ _ _ rfl (k1.out.setRow _) Try.underlying30 rfl size30 (byteRow_size _ _)) rfl ⟨rfl, below_row l.out (by omega) _⟩
set_option maxRecDepth 100000 in
set_option maxHeartbeats 400000 in
theorem eqMatrix (b : Nat → UInt8) (w : World) :
    Calls Try.prog 19 #[.agg (byteRow 16 b), .agg (byteRow 16 b)] w fun e w' => e = .returned (.bool true) ∧ Below w.heap.size w w' := by
  go_enter Try.func19, Try.ntmps19
  go_wp2
  go_loopw [5] (fun i wr => ∃ k : Nat, k ≤ 4 ∧ i = .int .i64 k ∧ Blk wr w.heap.size 30 (byteRow 16 b) ∧ Blk wr (w.heap.size + 1) 30 (byteRow 16 b) ∧ Below w.heap.size w wr)
    (fun i _ => 4 - (intOf i).toNat)
  case atStart =>
    exact ⟨0, by omega, rfl, (Blk.new w _ _).alloc _, (Blk.newAt (by simp)), ((Below.refl _ _).alloc (by omega) _).alloc (by simp) _⟩
  case round =>
    obtain ⟨k, hk, rfl, k0, k1, l⟩ := hrel
    have k0 := Lib.hid k0
    have k1 := Lib.hid k1
    have l := Lib.hid l
    by_cases hlt : k < 4
    · have hki : (k : Int) < 4 := by omega
      have hq4 : k * 4 + 4 ≤ 16 := by omega
      have q0 : ∀ w', Cls wr w' → Blk w' w.heap.size 30 (byteRow 16 b) := fun w' hC => k0.out.below hC k0.out.lt
      have q1 : ∀ w', Cls wr w' → Blk w' (w.heap.size + 1) 30 (byteRow 16 b) := fun w' hC => k1.out.below hC k1.out.lt
      have q0 := Lib.hid q0
      have q1 := Lib.hid q1
      go_wp2
      refine wp_region_quiet (C := Cls wr) (by kernel_rfl) (by kernel_rfl) (cls_drew wr) ?_
      refine q_move rfl _ rfl ?_
      refine q_val rfl (.pointer (some ⟨w.heap.size, k * 4, none⟩)) (fun w' hC => by go_simp) ?_
      refine q_loadM rfl _ _ rfl w.heap.size (k * 4) rfl q0.out hq4 Try.underlying28 rfl size28 ?_
      refine q_move rfl _ rfl ?_
      refine q_val rfl (.pointer (some ⟨w.heap.size + 1, k * 4, none⟩)) (fun w' hC => by go_simp) ?_
      refine q_loadM rfl _ _ rfl (w.heap.size + 1) (k * 4) rfl q1.out hq4 Try.underlying28 rfl size28 ?_
      refine q_call rfl 56 _ (.bool true) (fun w' hC => by go_simp) (cls_call (eqByteA4 (fun j => b (k * 4 + j)))) ?_
      refine q_val rfl (.bool false) (fun w' hC => by go_simp) ?_
      refine wpQuiet_nil ?_
      intro wx hC
      simp only [Act.put, List.setIfInBounds_toArray, List.set_cons_zero, List.set_cons_succ]
      have k0 := carryB k0 hC
      have k1 := carryB k1 hC
      have l := carryS l hC
      go_wp2
      go_roundw
      case rel => exact ⟨k + 1, by omega, by go_num, k0.out, k1.out, l.out⟩
      case measure => simp [intOf]; omega
    · go_wp2
      go_ret
      exact ⟨rfl, l.out⟩
def unitM (i : Nat) : UInt8 := if i % 5 = 0 then 1 else 0
theorem unit_step {k : Nat} (_hk : k < 4) : byteRow 16 (upd (fun i => if i < 5 * k then unitM i else 0) (k * 4 + k) 1) = byteRow 16 (fun i => if i < 5 * (k + 1) then unitM i else 0) := byteRow_congr fun i hi => by
  unfold upd unitM
  by_cases h : i = k * 4 + k
  · subst h
    rw [if_pos rfl, if_pos (by omega), if_pos (by omega)]
  · rw [if_neg h]
    show (if i < 5 * k then (if i % 5 = 0 then (1 : UInt8) else 0) else 0) = _
    by_cases h2 : i < 5 * k
    · rw [if_pos h2, if_pos (show i < 5 * (k + 1) by omega)]
    · rw [if_neg h2]
      by_cases h3 : i < 5 * (k + 1)
      · rw [if_pos h3, if_neg (show ¬ i % 5 = 0 by omega)]
      · rw [if_neg h3]
/-- The place of an entry behind a transposition. -/
def trI (i : Nat) : Nat := i % 4 * 4 + i / 4
def transM (b : Nat → UInt8) (i : Nat) : UInt8 := b (trI i)
def transTo (b : Nat → UInt8) (m i : Nat) : UInt8 := if trI i < m then transM b i else 0
def transTo' (b : Nat → UInt8) (m i : Nat) : UInt8 := if i < m then transM b i else 0
theorem trans_step (b : Nat → UInt8) {k q : Nat} (hk : k < 4) (hq : q < 4) : byteRow 16 (upd (transTo b (k * 4 + q)) (q * 4 + k) (b (k * 4 + q))) = byteRow 16 (transTo b (k * 4 + (q + 1))) := byteRow_congr fun i hi => by
  unfold upd transTo transM trI
  by_cases h : i = q * 4 + k
  · subst h
    rw [if_pos rfl, show (q * 4 + k) % 4 * 4 + (q * 4 + k) / 4 = k * 4 + q by omega, if_pos (by omega)]
  · rw [if_neg h]
    by_cases h2 : i % 4 * 4 + i / 4 < k * 4 + q
    · rw [if_pos h2, if_pos (by omega)]
    · rw [if_neg h2, if_neg (by omega)]
theorem trans_step' (b : Nat → UInt8) {k q : Nat} (_hk : k < 4) (hq : q < 4) : byteRow 16 (upd (transTo' b (k * 4 + q)) (k * 4 + q) (b (q * 4 + k))) = byteRow 16 (transTo' b (k * 4 + (q + 1))) := byteRow_congr fun i hi => by
  unfold upd transTo' transM trI
  by_cases h : i = k * 4 + q
  · subst h
    rw [if_pos rfl, show (k * 4 + q) % 4 * 4 + (k * 4 + q) / 4 = q * 4 + k by omega, if_pos (by omega)]
  · rw [if_neg h]
    by_cases h2 : i < k * 4 + q
    · rw [if_pos h2, if_pos (by omega)]
    · rw [if_neg h2, if_neg (by omega)]
end Go.Proofs.Ytnkfghoajpghkaa
