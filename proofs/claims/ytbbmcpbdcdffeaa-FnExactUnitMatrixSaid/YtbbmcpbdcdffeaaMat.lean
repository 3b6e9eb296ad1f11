/- Contracts: matrices of four rows of four bytes: copies, the unit, the transpose. No condition. -/
import Derived.Test.YtbbmcpbdcdffeaaLaws
namespace Go.Proofs.Ytbbmcpbdcdffeaa
open Go.RowKit
theorem mat_step {k : Nat} (b : Nat → UInt8) : byteRow 16 (fun i => if k * 4 ≤ i ∧ i < k * 4 + 4 then b (k * 4 + (i - k * 4)) else if i < k * 4 then b i else 0) = byteRow 16 (fun i => if i < (k + 1) * 4 then b i else 0) := byteRow_congr fun i _ => by
  by_cases h : i < k * 4
  · rw [if_neg (by omega), if_pos h, if_pos (by omega)]
  · by_cases h2 : i < (k + 1) * 4
    · rw [if_pos (by omega), if_pos h2, show k * 4 + (i - k * 4) = i by omega]
    · rw [if_neg (by omega), if_neg h, if_neg h2]
set_option maxRecDepth 100000 in
set_option maxHeartbeats 400000 in
theorem toMatrix (b : Nat → UInt8) (w : World) :
    Calls Try.prog 33 #[.agg (byteRow 16 b)] w fun e w' => e = .returned (.agg (byteRow 16 b)) ∧ Below w.heap.size w w' := by
  go_enter Try.func33, Try.ntmps33
  go_wp2
  go_loopw [4] (fun i wr => ∃ k : Nat, k ≤ 4 ∧ i = .int .i64 k ∧ Blk wr w.heap.size 44 (byteRow 16 b) ∧ Blk wr (w.heap.size + 1) 45 (byteRow 16 (fun _ => 0)) ∧ Blk wr (w.heap.size + 1 + 1) 45 (byteRow 16 (fun i => if i < k * 4 then b i else 0)) ∧ Below w.heap.size w wr)
    (fun i _ => 4 - (intOf i).toNat)
  case atStart =>
    rw [zero16]
    exact ⟨0, by omega, rfl, ((Blk.new w _ _).alloc _).alloc _, (Blk.newAt (by simp)).alloc _, (Blk.newAt (by simp)).eq_ (byteRow_none _ _ _), (((Below.refl _ _).alloc (by omega) _).alloc (by simp) _).alloc (by simp; omega) _⟩
  case round =>
    obtain ⟨k, hk, rfl, k0, k1, k2, l⟩ := hrel
    have k0 := Lib.hid k0
    have k1 := Lib.hid k1
    by_cases hlt : k < 4
    · have hki : (k : Int) < 4 := by omega
      have hq4 : k * 4 + 4 ≤ 16 := by omega
      have k2 := Lib.hid k2
      have l := Lib.hid l
      go_wp2_with (refine wpList_loadM rfl _ _ rfl _ _ rfl k0 hq4 Try.underlying43 rfl size43 ?_)
      refine (toByteA4 _ _).mono ?_
      rintro e wx ⟨rfl, hb⟩
      have k0 := carryB k0 hb
      have k1 := carryB k1 hb
      have k2 := carryB k2 hb
      have l := carryS l hb
      clear hb
      go_wp2_with (with_reducible show wpList _ _ _ _ _ wx; refine wpList_storeM rfl _ _ _ rfl _ _ rfl _ rfl rfl k2 hq4 size43 ?_)
      go_roundw
      case rel => exact ⟨k + 1, by omega, by go_num, k0.out.farM (by omega) _ _, k1.out.farM (by omega) _ _, (k2.out.setM).eq_ (mat_step b), below_setM (by omega) _ _ _ _ l.out⟩
      case measure => simp [intOf]; omega
    · have k2 := Lib.hid (k2.eq_ (byteRow_congr (c := b) fun i hi => if_pos (by omega)))
      have l := Lib.hid l
      go_wp2_with (first | (refine wpList_loadR rfl _ _ rfl _ rfl k2.out Try.underlying45 rfl size45 (byteRow_size _ _) ?_) | (refine wpList_storeR rfl _ _ _ rfl _ _ rfl rfl k1.out size45 (byteRow_size _ _) (byteRow_size _ _) (byteRow_all _ _) ?_))
      refine bodyPost_ret (results_cellB rfl _ _ _ rfl (k1.out.setRow _) Try.underlying45 rfl size45 (byteRow_size _ _)) rfl ⟨rfl, below_row l.out (by omega) _⟩
set_option maxRecDepth 100000 in
set_option maxHeartbeats 400000 in
theorem eqMatrix (b : Nat → UInt8) (w : World) :
    Calls Try.prog 31 #[.agg (byteRow 16 b), .agg (byteRow 16 b)] w fun e w' => e = .returned (.bool true) ∧ Below w.heap.size w w' := by
  go_enter Try.func31, Try.ntmps31
  go_wp2
  go_loopw [5] (fun i wr => ∃ k : Nat, k ≤ 4 ∧ i = .int .i64 k ∧ Blk wr w.heap.size 45 (byteRow 16 b) ∧ Blk wr (w.heap.size + 1) 45 (byteRow 16 b) ∧ Below w.heap.size w wr)
    (fun i _ => 4 - (intOf i).toNat)
  case atStart =>
    exact ⟨0, by omega, rfl, (Blk.new w _ _).alloc _, (Blk.newAt (by simp)), ((Below.refl _ _).alloc (by omega) _).alloc (by simp) _⟩
  case round =>
    obtain ⟨k, hk, rfl, k0, k1, l⟩ := hrel
    have k0 := Lib.hid k0
    have k1 := Lib.hid k1
    have l := Lib.hid l
    by_cases hlt : k < 4
    · have hki : (k : Int) < 4 := by omega
      have hq4 : k * 4 + 4 ≤ 16 := by omega
      have q0 : ∀ w', Cls wr w' → Blk w' w.heap.size 45 (byteRow 16 b) := fun w' hC => k0.out.below hC k0.out.lt
      have q1 : ∀ w', Cls wr w' → Blk w' (w.heap.size + 1) 45 (byteRow 16 b) := fun w' hC => k1.out.below hC k1.out.lt
      have q0 := Lib.hid q0
      have q1 := Lib.hid q1
      go_wp2
      refine wp_region_quiet (C := Cls wr) (by kernel_rfl) (by kernel_rfl) (cls_drew wr) ?_
      refine q_move rfl _ rfl ?_
      refine q_val rfl (.pointer (some ⟨w.heap.size, k * 4, none⟩)) (fun w' hC => by go_simp) ?_
      refine q_loadM rfl _ _ rfl w.heap.size (k * 4) rfl q0.out hq4 Try.underlying43 rfl size43 ?_
      refine q_move rfl _ rfl ?_
      refine q_val rfl (.pointer (some ⟨w.heap.size + 1, k * 4, none⟩)) (fun w' hC => by go_simp) ?_
      refine q_loadM rfl _ _ rfl (w.heap.size + 1) (k * 4) rfl q1.out hq4 Try.underlying43 rfl size43 ?_
      refine q_call rfl 51 _ (.bool true) (fun w' hC => by go_simp) (cls_call (eqByteA4 (fun j => b (k * 4 + j)))) ?_
      refine q_val rfl (.bool false) (fun w' hC => by go_simp) ?_
      refine wpQuiet_nil ?_
      intro wx hC
      simp only [Act.put, List.setIfInBounds_toArray, List.set_cons_zero, List.set_cons_succ]
      have k0 := carryB k0 hC
      have k1 := carryB k1 hC
      have l := carryS l hC
      go_wp2
      go_roundw
      case rel => exact ⟨k + 1, by omega, by go_num, k0.out, k1.out, l.out⟩
      case measure => simp [intOf]; omega
    · go_wp2
      go_ret
      exact ⟨rfl, l.out⟩
def unitM (i : Nat) : UInt8 := if i % 5 = 0 then 1 else 0
theorem unit_step {k : Nat} (hk : k < 4) : byteRow 16 (upd (fun i => if i < 5 * k then unitM i else 0) (k * 4 + k) 1) = byteRow 16 (fun i => if i < 5 * (k + 1) then unitM i else 0) := byteRow_congr fun i hi => by
  unfold upd unitM
  by_cases h : i = k * 4 + k
  · subst h
    rw [if_pos rfl, if_pos (by omega), if_pos (by omega)]
  · rw [if_neg h]
    show (if i < 5 * k then (if i % 5 = 0 then (1 : UInt8) else 0) else 0) = _
    by_cases h2 : i < 5 * k
    · rw [if_pos h2, if_pos (show i < 5 * (k + 1) by omega)]
    · rw [if_neg h2]
      by_cases h3 : i < 5 * (k + 1)
      · rw [if_pos h3, if_neg (show ¬ i % 5 = 0 by omega)]
      · rw [if_neg h3]
/-- The place of an entry behind a transposition. -/
def trI (i : Nat) : Nat := i % 4 * 4 + i / 4
def transM (b : Nat → UInt8) (i : Nat) : UInt8 := b (trI i)
def transTo (b : Nat → UInt8) (m i : Nat) : UInt8 := if trI i < m then transM b i else 0
def transTo' (b : Nat → UInt8) (m i : Nat) : UInt8 := if i < m then transM b i else 0
theorem trans_step (b : Nat → UInt8) {k q : Nat} (hk : k < 4) (hq : q < 4) : byteRow 16 (upd (transTo b (k * 4 + q)) (q * 4 + k) (b (k * 4 + q))) = byteRow 16 (transTo b (k * 4 + (q + 1))) := byteRow_congr fun i hi => by
  unfold upd transTo transM trI
  by_cases h : i = q * 4 + k
  · subst h
    rw [if_pos rfl, show (q * 4 + k) % 4 * 4 + (q * 4 + k) / 4 = k * 4 + q by omega, if_pos (by omega)]
  · rw [if_neg h]
    by_cases h2 : i % 4 * 4 + i / 4 < k * 4 + q
    · rw [if_pos h2, if_pos (by omega)]
    · rw [if_neg h2, if_neg (by omega)]
theorem trans_step' (b : Nat → UInt8) {k q : Nat} (_hk : k < 4) (hq : q < 4) : byteRow 16 (upd (transTo' b (k * 4 + q)) (k * 4 + q) (b (q * 4 + k))) = byteRow 16 (transTo' b (k * 4 + (q + 1))) := byteRow_congr fun i hi => by
  unfold upd transTo' transM trI
  by_cases h : i = k * 4 + q
  · subst h
    rw [if_pos rfl, show (k * 4 + q) % 4 * 4 + (k * 4 + q) / 4 = q * 4 + k by omega, if_pos (by omega)]
  · rw [if_neg h]
    by_cases h2 : i < k * 4 + q
    · rw [if_pos h2, if_pos (by omega)]
    · rw [if_neg h2, if_neg (by omega)]
set_option maxRecDepth 100000 in
set_option maxHeartbeats 400000 in
theorem specUnitMatrix (w : World) :
    Calls Try.prog 29 #[] w fun e w' => e = .returned (.agg (byteRow 16 unitM)) ∧ Below w.heap.size w w' := by
  go_enter Try.func29, Try.ntmps29
  go_wp2
  go_loopw [2] (fun i wr => ∃ k : Nat, k ≤ 4 ∧ i = .int .i64 k ∧ Blk wr w.heap.size 45 (byteRow 16 (fun _ => 0)) ∧ Blk wr (w.heap.size + 1) 45 (byteRow 16 (fun i => if i < 5 * k then unitM i else 0)) ∧ Below w.heap.size w wr)
    (fun i _ => 4 - (intOf i).toNat)
  case atStart =>
    rw [zero16]
    exact ⟨0, by omega, rfl, (Blk.new w _ _).alloc _, (Blk.newAt (by simp)).eq_ (byteRow_congr fun i _ => rfl), ((Below.refl _ _).alloc (by omega) _).alloc (by simp) _⟩
  case round =>
    obtain ⟨k, hk, rfl, k0, k1, l⟩ := hrel
    by_cases hlt : k < 4
    · have hki : (k : Int) < 4 := by omega
      have c1 := k1.byteAt (i := k * 4 + k) (by omega)
      have f1 := k1.frozen (k * 4 + k)
      have k0 := Lib.hid k0
      have k1 := Lib.hid k1
      have l := Lib.hid l
      go_wp2
      go_roundw
      case rel => exact ⟨k + 1, by omega, by go_num, k0.out.farC (by omega) _, (k1.out.bytePut (k * 4 + k) 1).eq_ (unit_step hlt), l.out.setCell (by show _ ≤ _ + 1; omega) _⟩
      case measure => simp [intOf]; omega
    · have k0 := Lib.hid k0
      have k1 := Lib.hid (k1.eq_ (byteRow_congr (c := unitM) fun i hi => if_pos (by omega)))
      have l := Lib.hid l
      go_wp2_with (first | (refine wpList_loadR rfl _ _ rfl _ rfl k1.out Try.underlying45 rfl size45 (byteRow_size _ _) ?_) | (refine wpList_storeR rfl _ _ _ rfl _ _ rfl rfl k0.out size45 (byteRow_size _ _) (byteRow_size _ _) (byteRow_all _ _) ?_))
      refine bodyPost_ret (results_cellB rfl _ _ _ rfl (k0.out.setRow _) Try.underlying45 rfl size45 (byteRow_size _ _)) rfl ⟨rfl, below_row l.out (by omega) _⟩
set_option maxRecDepth 100000 in
set_option maxHeartbeats 400000 in
theorem implUnitMatrix (w : World) :
    Calls Try.prog 30 #[] w fun e w' => e = .returned (.agg (byteRow 16 unitM)) ∧ Below w.heap.size w w' := by
  go_enter Try.func30, Try.ntmps30
  go_wp2
  go_loopw [4] (fun i wr => ∃ k : Nat, k ≤ 4 ∧ i = .int .i64 k ∧ Blk wr w.heap.size 45 (byteRow 16 (fun _ => 0)) ∧ Blk wr (w.heap.size + 1) 45 (byteRow 16 (fun i => if i < 5 * k then unitM i else 0)) ∧ Below w.heap.size w wr)
    (fun i _ => 4 - (intOf i).toNat)
  case atStart =>
    rw [zero16]
    exact ⟨0, by omega, rfl, (Blk.new w _ _).alloc _, (Blk.newAt (by simp)).eq_ (byteRow_congr fun i _ => rfl), ((Below.refl _ _).alloc (by omega) _).alloc (by simp) _⟩
  case round =>
    obtain ⟨k, hk, rfl, k0, k1, l⟩ := hrel
    by_cases hlt : k < 4
    · have hki : (k : Int) < 4 := by omega
      have c1 := k1.byteAt (i := k * 4 + k) (by omega)
      have f1 := k1.frozen (k * 4 + k)
      have k0 := Lib.hid k0
      have k1 := Lib.hid k1
      have l := Lib.hid l
      go_wp2
      go_roundw
      case rel => exact ⟨k + 1, by omega, by go_num, k0.out.farC (by omega) _, (k1.out.bytePut (k * 4 + k) 1).eq_ (unit_step hlt), l.out.setCell (by show _ ≤ _ + 1; omega) _⟩
      case measure => simp [intOf]; omega
    · have k0 := Lib.hid k0
      have k1 := Lib.hid (k1.eq_ (byteRow_congr (c := unitM) fun i hi => if_pos (by omega)))
      have l := Lib.hid l
      go_wp2_with (first | (refine wpList_loadR rfl _ _ rfl _ rfl k1.out Try.underlying45 rfl size45 (byteRow_size _ _) ?_) | (refine wpList_storeR rfl _ _ _ rfl _ _ rfl rfl k0.out size45 (byteRow_size _ _) (byteRow_size _ _) (byteRow_all _ _) ?_))
      refine bodyPost_ret (results_cellB rfl _ _ _ rfl (k0.out.setRow _) Try.underlying45 rfl size45 (byteRow_size _ _)) rfl ⟨rfl, below_row l.out (by omega) _⟩
set_option maxRecDepth 100000 in
set_option maxHeartbeats 1000000 in
theorem specTransposeOf (b : Nat → UInt8) (w : World) :
    Calls Try.prog 32 #[.agg (byteRow 16 b)] w fun e w' => e = .returned (.agg (byteRow 16 (transM b))) ∧ Below w.heap.size w w' := by
  go_enter Try.func32, Try.ntmps32
  go_wp2
  go_loopw [4] (fun i wr => ∃ k : Nat, k ≤ 4 ∧ i = .int .i64 k ∧ Blk wr w.heap.size 45 (byteRow 16 b) ∧ Blk wr (w.heap.size + 1) 45 (byteRow 16 (fun _ => 0)) ∧ Blk wr (w.heap.size + 1 + 1) 45 (byteRow 16 (transTo b (k * 4))) ∧ Below w.heap.size w wr)
    (fun i _ => 4 - (intOf i).toNat)
  case atStart =>
    rw [zero16]
    exact ⟨0, by omega, rfl, ((Blk.new w _ _).alloc _).alloc _, (Blk.newAt (by simp)).alloc _, (Blk.newAt (by simp)).eq_ (byteRow_congr fun i _ => rfl), (((Below.refl _ _).alloc (by omega) _).alloc (by simp) _).alloc (by simp; omega) _⟩
  case round =>
    obtain ⟨k, hk, rfl, k0, k1, k2, l⟩ := hrel
    by_cases hlt : k < 4
    · have hki : (k : Int) < 4 := by omega
      have k0 := Lib.hid k0
      have k1 := Lib.hid k1
      have k2 := Lib.hid k2
      have l := Lib.hid l
      obtain ⟨wo, rfl⟩ : ∃ wo : World, wo = wr := ⟨_, rfl⟩
      go_wp2
      go_loopw [5] (fun j wr => ∃ q : Nat, q ≤ 4 ∧ j = .int .i64 q ∧ Blk wr w.heap.size 45 (byteRow 16 b) ∧ Blk wr (w.heap.size + 1) 45 (byteRow 16 (fun _ => 0)) ∧ Blk wr (w.heap.size + 1 + 1) 45 (byteRow 16 (transTo b (k * 4 + q))) ∧ Below w.heap.size w wr)
        (fun j _ => 4 - (intOf j).toNat)
      case atStart => exact ⟨0, by omega, rfl, k0.out, k1.out, k2.out, l.out⟩
      case round =>
        clear k0 k1 k2 l
        obtain ⟨q, hq, rfl, k0, k1, k2, l⟩ := hrel
        by_cases hqt : q < 4
        · have hqi : (q : Int) < 4 := by omega
          have c0 := k0.byteAt (i := k * 4 + q) (by omega)
          have c2 := k2.byteAt (i := q * 4 + k) (by omega)
          have f2 := k2.frozen (q * 4 + k)
          have k0 := Lib.hid k0
          have k1 := Lib.hid k1
          have k2 := Lib.hid k2
          have l := Lib.hid l
          go_wp2
          go_region
          go_wp2
          go_roundw
          case rel => exact ⟨q + 1, by omega, by go_num, k0.out.farC (by omega) _, k1.out.farC (by omega) _, (k2.out.bytePut (q * 4 + k) (b (k * 4 + q))).eq_ (trans_step b hlt hqt), (l.out.setCell (p := ⟨w.heap.size + 1 + 1, _, none⟩) (by show _ ≤ _ + 1 + 1; omega) _).drew⟩
          case measure => simp [intOf]; omega
        · obtain rfl : q = 4 := by omega
          have k0 := Lib.hid k0
          have k1 := Lib.hid k1
          have k2 := Lib.hid k2
          have l := Lib.hid l
          go_wp2
          go_roundw
          case rel => exact ⟨k + 1, by omega, by go_num, k0.out, k1.out, k2.out.eq_ (by rw [show k * 4 + 4 = (k + 1) * 4 by omega]), l.out⟩
          case measure => simp [intOf]; omega
    · have k0 := Lib.hid k0
      have k1 := Lib.hid k1
      have k2 := Lib.hid (k2.eq_ (byteRow_congr (c := transM b) fun i hi => if_pos (by unfold trI; omega)))
      have l := Lib.hid l
      go_wp2_with (first | (refine wpList_loadR rfl _ _ rfl _ rfl k2.out Try.underlying45 rfl size45 (byteRow_size _ _) ?_) | (refine wpList_storeR rfl _ _ _ rfl _ _ rfl rfl k1.out size45 (byteRow_size _ _) (byteRow_size _ _) (byteRow_all _ _) ?_))
      refine bodyPost_ret (results_cellB rfl _ _ _ rfl (k1.out.setRow _) Try.underlying45 rfl size45 (byteRow_size _ _)) rfl ⟨rfl, below_row l.out (by omega) _⟩
set_option maxRecDepth 100000 in
set_option maxHeartbeats 1000000 in
theorem implTransposeOf (b : Nat → UInt8) (w : World) :
    Calls Try.prog 34 #[.agg (byteRow 16 b)] w fun e w' => e = .returned (.agg (byteRow 16 (transM b))) ∧ Below w.heap.size w w' := by
  go_enter Try.func34, Try.ntmps34
  go_wp2
  go_loopw [7] (fun i wr => ∃ k : Nat, k ≤ 4 ∧ i = .int .i64 k ∧ Blk wr w.heap.size 45 (byteRow 16 b) ∧ Blk wr (w.heap.size + 1) 45 (byteRow 16 (fun _ => 0)) ∧ Blk wr (w.heap.size + 1 + 1) 45 (byteRow 16 (transTo' b (k * 4))) ∧ Below w.heap.size w wr)
    (fun i _ => 4 - (intOf i).toNat)
  case atStart =>
    rw [zero16]
    exact ⟨0, by omega, rfl, ((Blk.new w _ _).alloc _).alloc _, (Blk.newAt (by simp)).alloc _, (Blk.newAt (by simp)).eq_ (byteRow_congr fun i _ => rfl), (((Below.refl _ _).alloc (by omega) _).alloc (by simp) _).alloc (by simp; omega) _⟩
  case round =>
    obtain ⟨k, hk, rfl, k0, k1, k2, l⟩ := hrel
    by_cases hlt : k < 4
    · have hki : (k : Int) < 4 := by omega
      have k0 := Lib.hid k0
      have k1 := Lib.hid k1
      have k2 := Lib.hid k2
      have l := Lib.hid l
      obtain ⟨wo, rfl⟩ : ∃ wo : World, wo = wr := ⟨_, rfl⟩
      go_wp2
      go_loopw [10] (fun j wr => ∃ q : Nat, q ≤ 4 ∧ j = .int .i64 q ∧ Blk wr w.heap.size 45 (byteRow 16 b) ∧ Blk wr (w.heap.size + 1) 45 (byteRow 16 (fun _ => 0)) ∧ Blk wr (w.heap.size + 1 + 1) 45 (byteRow 16 (transTo' b (k * 4 + q))) ∧ Below w.heap.size w wr)
        (fun j _ => 4 - (intOf j).toNat)
      case atStart => exact ⟨0, by omega, rfl, k0.out, k1.out, k2.out, l.out⟩
      case round =>
        clear k0 k1 k2 l
        obtain ⟨q, hq, rfl, k0, k1, k2, l⟩ := hrel
        by_cases hqt : q < 4
        · have hqi : (q : Int) < 4 := by omega
          have c0 := k0.byteAt (i := q * 4 + k) (by omega)
          have c2 := k2.byteAt (i := k * 4 + q) (by omega)
          have f2 := k2.frozen (k * 4 + q)
          have k0 := Lib.hid k0
          have k1 := Lib.hid k1
          have k2 := Lib.hid k2
          have l := Lib.hid l
          go_wp2
          go_region
          go_wp2
          go_roundw
          case rel => exact ⟨q + 1, by omega, by go_num, k0.out.farC (by omega) _, k1.out.farC (by omega) _, (k2.out.bytePut (k * 4 + q) (b (q * 4 + k))).eq_ (trans_step' b hlt hqt), (l.out.setCell (p := ⟨w.heap.size + 1 + 1, _, none⟩) (by show _ ≤ _ + 1 + 1; omega) _).drew⟩
          case measure => simp [intOf]; omega
        · obtain rfl : q = 4 := by omega
          have k0 := Lib.hid k0
          have k1 := Lib.hid k1
          have k2 := Lib.hid k2
          have l := Lib.hid l
          go_wp2
          go_roundw
          case rel => exact ⟨k + 1, by omega, by go_num, k0.out, k1.out, k2.out.eq_ (by rw [show k * 4 + 4 = (k + 1) * 4 by omega]), l.out⟩
          case measure => simp [intOf]; omega
    · have k0 := Lib.hid k0
      have k1 := Lib.hid k1
      have k2 := Lib.hid (k2.eq_ (byteRow_congr (c := transM b) fun i hi => if_pos (by omega)))
      have l := Lib.hid l
      go_wp2_with (first | (refine wpList_loadR rfl _ _ rfl _ rfl k2.out Try.underlying45 rfl size45 (byteRow_size _ _) ?_) | (refine wpList_storeR rfl _ _ _ rfl _ _ rfl rfl k1.out size45 (byteRow_size _ _) (byteRow_size _ _) (byteRow_all _ _) ?_))
      refine bodyPost_ret (results_cellB rfl _ _ _ rfl (k1.out.setRow _) Try.underlying45 rfl size45 (byteRow_size _ _)) rfl ⟨rfl, below_row l.out (by omega) _⟩
end Go.Proofs.Ytbbmcpbdcdffeaa
