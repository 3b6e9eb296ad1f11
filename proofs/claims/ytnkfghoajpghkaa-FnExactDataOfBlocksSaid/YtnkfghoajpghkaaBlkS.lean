/- Contracts of the laws' helpers on slices of blocks: equality, marks, and whether they hold. No condition. -/
import Derived.Test.YtnkfghoajpghkaaRows
import Derived.Test.YtnkfghoajpghkaaLaws
import Derived.Test.YtnkfghoajpghkaaSliB
set_option linter.unusedVariables false
namespace Go.Proofs.Ytnkfghoajpghkaa
open Go.RowKit
set_option maxRecDepth 100000 in
set_option maxHeartbeats 300000 in
theorem eqBlockS {B1 B2 n : Nat} {v1 v2 : Value} {f : Nat → UInt8} (w : World) (h1 : RowB w B1 89 v1 n f) (h2 : RowB w B2 89 v2 n f) :
    Calls Try.prog 34 #[v1, v2] w fun e w' => e = .returned (.bool true) ∧ Below w.heap.size w w' := by
  obtain ⟨a1, c1, rfl, hc1, hm1, f1⟩ := h1.form
  obtain ⟨a2, c2, rfl, hc2, hm2, f2⟩ := h2.form
  have hmx : n ≤ maxLen := Nat.le_trans hc1 hm1
  unfold maxLen at hmx
  rcases Nat.eq_zero_or_pos n with h0 | h0
  · subst h0
    clear f1 f2 hc1 hm1 hc2 hm2 hmx
    have H1 := Lib.hid h1; clear h1; have H2 := Lib.hid h2; clear h2
    go_enter Try.func34, Try.ntmps34
    go_wp2
    go_loopw [5] (fun i wr => i = .int .i64 0 ∧ Below w.heap.size w wr) (fun _ _ => 0)
    case atStart => exact ⟨rfl, Below.refl _ _⟩
    case round =>
      obtain ⟨rfl, hb⟩ := hrel
      have Hb := Lib.hid hb; clear hb
      go_wp2
      go_ret
      exact ⟨rfl, Hb.out⟩
  · obtain ⟨g1, rfl, _, hg1⟩ := f1.resolve_left (by omega)
    obtain ⟨g2, rfl, _, hg2⟩ := f2.resolve_left (by omega)
    clear f1 f2 hc1 hm1 hc2 hm2
    have H1 := Lib.hid h1; clear h1; have H2 := Lib.hid h2; clear h2
    go_enter Try.func34, Try.ntmps34
    go_wp2
    go_loopw [5] (fun i wr => ∃ k : Nat, k ≤ n ∧ i = .int .i64 k ∧ RowB wr B1 89 (.slice (some ⟨g1, 0, none⟩) n c1) n f ∧ RowB wr B2 89 (.slice (some ⟨g2, 0, none⟩) n c2) n f ∧ Below w.heap.size w wr)
      (fun i _ => n - (intOf i).toNat)
    case atStart => exact ⟨0, by omega, rfl, H1.out, H2.out, Below.refl _ _⟩
    case round =>
      obtain ⟨k, hk, rfl, hr1, hr2, hb⟩ := hrel
      by_cases hlt : k < n
      · have hki : (k : Int) < n := by omega
        have q0 : ∀ w', Cls wr w' → ∀ i, i < 16 → w'.cell? ⟨g1, k * 16 + i, none⟩ = some (.int .u8 ((f (k * 16 + i)).toNat : Int)) := fun w' hC i hi => (hr1.below hC (Nat.le_refl _)).at_ (by omega)
        have q1 : ∀ w', Cls wr w' → ∀ i, i < 16 → w'.cell? ⟨g2, k * 16 + i, none⟩ = some (.int .u8 ((f (k * 16 + i)).toNat : Int)) := fun w' hC i hi => (hr2.below hC (Nat.le_refl _)).at_ (by omega)
        have q0 := Lib.hid q0
        have q1 := Lib.hid q1
        have Hr1 := Lib.hid hr1; clear hr1; have Hr2 := Lib.hid hr2; clear hr2; have Hb := Lib.hid hb; clear hb
        go_wp2
        refine wp_region_quiet (C := Cls wr) (by kernel_rfl) (by kernel_rfl) (cls_drew wr) ?_
        refine q_move rfl _ rfl ?_
        refine q_move rfl _ rfl ?_
        refine q_val rfl (.pointer (some ⟨g1, k * 16, none⟩)) (fun w' hC => by go_simp) ?_
        refine q_loadC rfl _ _ rfl g1 (k * 16) rfl 16 (fun i => f (k * 16 + i)) q0.out Try.underlying89 rfl size89 ?_
        simp only [Act.put, List.setIfInBounds_toArray, List.set_cons_zero, List.set_cons_succ]
        refine q_move rfl _ rfl ?_
        refine q_move rfl _ rfl ?_
        refine q_val rfl (.pointer (some ⟨g2, k * 16, none⟩)) (fun w' hC => by go_simp) ?_
        simp only [Act.put, List.setIfInBounds_toArray, List.set_cons_zero, List.set_cons_succ]
        refine q_loadC rfl _ _ rfl g2 (k * 16) rfl 16 (fun i => f (k * 16 + i)) q1.out Try.underlying89 rfl size89 ?_
        refine q_call rfl 70 _ (.bool true) (fun w' hC => by go_simp) (cls_call (eqBlock (fun i => f (k * 16 + i)))) ?_
        refine q_val rfl (.bool false) (fun w' hC => by go_simp) ?_
        refine wpQuiet_nil ?_
        intro wx hC
        simp only [Act.put, List.setIfInBounds_toArray, List.set_cons_zero, List.set_cons_succ]
        have K1 := carryK Hr1 hC
        have K2 := carryK Hr2 hC
        have l := carryS Hb hC
        go_wp2
        go_roundw
        case rel => exact ⟨k + 1, by omega, by go_num, K1.out, K2.out, l.out⟩
        case measure => simp [intOf]; omega
      · obtain rfl : k = n := by omega
        have Hr1 := Lib.hid hr1; clear hr1; have Hr2 := Lib.hid hr2; clear hr2; have Hb := Lib.hid hb; clear hb
        go_wp2
        go_ret
        exact ⟨rfl, Hb.out⟩
theorem mark_step {q0 k : Nat} (f : Nat → UInt8) : upd (fun i => if i < k then UInt8.ofNat (q0 + i) else f i) k (UInt8.ofNat (q0 + k)) = fun i => if i < k + 1 then UInt8.ofNat (q0 + i) else f i := by
  funext i
  unfold upd
  by_cases h : i = k
  · subst h; simp
  · by_cases h2 : i < k
    · simp [h, h2, show i < k + 1 by omega]
    · simp [h, h2, show ¬ i < k + 1 by omega]
set_option maxRecDepth 100000 in
set_option maxHeartbeats 800000 in
theorem markBlockS {B n q0 : Nat} {v : Value} {f : Nat → UInt8} (w : World) (h1 : RowB w B 89 v n f) (hq : q0 ≤ 4294967296) (hn : n ≤ 4294967296) :
    Calls Try.prog 35 #[v, .int .i64 (q0 : Int)] w fun e w' => e = .returned (.int .i64 ((q0 + n * 16 : Nat) : Int)) ∧ RowB w' B 89 v n (fun i => UInt8.ofNat (q0 + i)) ∧ w.grownBy w' v.ownBlock := by
  obtain ⟨a1, c1, rfl, hc1, hm1, f1⟩ := h1.form
  rcases Nat.eq_zero_or_pos n with h0 | h0
  · subst h0
    clear f1 hc1 hm1
    have H1 := Lib.hid h1; clear h1
    go_enter Try.func35, Try.ntmps35
    go_wp2
    go_loopw [5, 1] (fun i q wr => i = .int .i64 0 ∧ q = .int .i64 (q0 : Int) ∧ wr = w) (fun _ _ _ => 0)
    case atStart => exact ⟨rfl, rfl, rfl⟩
    case round =>
      obtain ⟨rfl, rfl, rfl⟩ := hrel
      go_wp2
      go_ret
      exact ⟨rfl, H1.out.congr fun i hi => absurd hi (by omega), World.grownBy.refl _ _⟩
  · obtain ⟨g1, rfl, _, _⟩ := f1.resolve_left (by omega)
    clear f1 hc1 hm1
    have H1 := Lib.hid h1; clear h1
    go_enter Try.func35, Try.ntmps35
    go_wp2
    go_loopw [5, 1] (fun i q wr => ∃ k : Nat, k ≤ n ∧ i = .int .i64 k ∧ q = .int .i64 ((q0 + k * 16 : Nat) : Int) ∧ RowB wr B 89 (.slice (some ⟨g1, 0, none⟩) n c1) n (fun i => if i < k * 16 then UInt8.ofNat (q0 + i) else f i) ∧ w.grownBy wr (some g1))
      (fun i _ _ => n - (intOf i).toNat)
    case atStart => exact ⟨0, by omega, rfl, rfl, H1.out.congr fun i hi => by simp, World.grownBy.refl _ _⟩
    case round =>
      obtain ⟨k, hk, rfl, rfl, hr1, hb⟩ := hrel
      by_cases hlt : k < n
      · have hki : (k : Int) < n := by omega
        have Hr1 := Lib.hid hr1; clear hr1; have Hb := Lib.hid hb; clear hb
        obtain ⟨wo, rfl⟩ : ∃ wo : World, wo = wr := ⟨_, rfl⟩
        go_wp2
        go_loopw [6, 1] (fun j q wr => ∃ j0 : Nat, j0 ≤ 16 ∧ j = .int .i64 j0 ∧ q = .int .i64 ((q0 + (k * 16 + j0) : Nat) : Int) ∧ RowB wr B 89 (.slice (some ⟨g1, 0, none⟩) n c1) n (fun i => if i < k * 16 + j0 then UInt8.ofNat (q0 + i) else f i) ∧ w.grownBy wr (some g1))
          (fun j _ _ => 16 - (intOf j).toNat)
        case atStart => exact ⟨0, by omega, rfl, rfl, Hr1.out, Hb.out⟩
        case round =>
          clear Hr1 Hb
          obtain ⟨j, hj, rfl, rfl, hr1, hb⟩ := hrel
          by_cases hjt : j < 16
          · have hji : (j : Int) < 16 := by omega
            have fz := hr1.fz (k * 16 + j)
            have c1 : wr.cell? ⟨g1, k * 16 + j, none⟩ = some _ := hr1.at_ (i := k * 16 + j) (by omega)
            have em := mod256 (q0 + (k * 16 + j))
            have Hr1 := Lib.hid hr1; clear hr1; have Hb := Lib.hid hb; clear hb
            go_wp2
            go_roundw
            case rel => exact ⟨j + 1, by omega, by go_num, by go_num, by have := Hr1.out.put (k * 16 + j) (UInt8.ofNat (q0 + (k * 16 + j))); rw [mark_step] at this; exact this, Hb.out.trans (Hr1.out.grow (k * 16 + j) _)⟩
            case measure => simp [intOf]; omega
          · obtain rfl : j = 16 := by omega
            have Hr1 := Lib.hid hr1; clear hr1; have Hb := Lib.hid hb; clear hb
            go_wp2
            go_roundw
            case rel => exact ⟨k + 1, by omega, by go_num, by rw [show (k + 1) * 16 = k * 16 + 16 by omega], by rw [show (k + 1) * 16 = k * 16 + 16 by omega]; exact Hr1.out, Hb.out⟩
            case measure => simp [intOf]; omega
      · obtain rfl : k = n := by omega
        have Hr1 := Lib.hid hr1; clear hr1; have Hb := Lib.hid hb; clear hb
        go_wp2
        go_ret
        exact ⟨rfl, Hr1.out.congr fun i hi => by simp [hi], Hb.out⟩
set_option maxRecDepth 100000 in
set_option maxHeartbeats 800000 in
theorem heldBlockS {B n q0 : Nat} {v : Value} (w : World) (h1 : RowB w B 89 v n (fun i => UInt8.ofNat (q0 + i))) (hq : q0 ≤ 4294967296) (hn : n ≤ 4294967296) :
    Calls Try.prog 36 #[v, .int .i64 (q0 : Int)] w fun e w' => e = .returned (.int .i64 ((q0 + n * 16 : Nat) : Int)) ∧ Below w.heap.size w w' := by
  obtain ⟨a1, c1, rfl, hc1, hm1, f1⟩ := h1.form
  rcases Nat.eq_zero_or_pos n with h0 | h0
  · subst h0
    clear f1 hc1 hm1
    have H1 := Lib.hid h1; clear h1
    go_enter Try.func36, Try.ntmps36
    go_wp2
    go_loopw [5, 1] (fun i q wr => i = .int .i64 0 ∧ q = .int .i64 (q0 : Int) ∧ wr = w) (fun _ _ _ => 0)
    case atStart => exact ⟨rfl, rfl, rfl⟩
    case round =>
      obtain ⟨rfl, rfl, rfl⟩ := hrel
      go_wp2
      go_ret
      exact ⟨rfl, Below.refl _ _⟩
  · obtain ⟨g1, rfl, _, _⟩ := f1.resolve_left (by omega)
    clear f1 hc1 hm1
    have H1 := Lib.hid h1; clear h1
    go_enter Try.func36, Try.ntmps36
    go_wp2
    go_loopw [5, 1] (fun i q wr => ∃ k : Nat, k ≤ n ∧ i = .int .i64 k ∧ q = .int .i64 ((q0 + k * 16 : Nat) : Int) ∧ RowB wr B 89 (.slice (some ⟨g1, 0, none⟩) n c1) n (fun i => UInt8.ofNat (q0 + i)) ∧ Below w.heap.size w wr)
      (fun i _ _ => n - (intOf i).toNat)
    case atStart => exact ⟨0, by omega, rfl, rfl, H1.out, Below.refl _ _⟩
    case round =>
      obtain ⟨k, hk, rfl, rfl, hr1, hb⟩ := hrel
      by_cases hlt : k < n
      · have hki : (k : Int) < n := by omega
        have Hr1 := Lib.hid hr1; clear hr1; have Hb := Lib.hid hb; clear hb
        obtain ⟨wo, rfl⟩ : ∃ wo : World, wo = wr := ⟨_, rfl⟩
        go_wp2
        go_loopw [6, 1] (fun j q wr => ∃ j0 : Nat, j0 ≤ 16 ∧ j = .int .i64 j0 ∧ q = .int .i64 ((q0 + (k * 16 + j0) : Nat) : Int) ∧ RowB wr B 89 (.slice (some ⟨g1, 0, none⟩) n c1) n (fun i => UInt8.ofNat (q0 + i)) ∧ Below w.heap.size w wr)
          (fun j _ _ => 16 - (intOf j).toNat)
        case atStart => exact ⟨0, by omega, rfl, rfl, Hr1.out, Hb.out⟩
        case round =>
          clear Hr1 Hb
          obtain ⟨j, hj, rfl, rfl, hr1, hb⟩ := hrel
          by_cases hjt : j < 16
          · have hji : (j : Int) < 16 := by omega
            have c1 : wr.cell? ⟨g1, k * 16 + j, none⟩ = some (.int .u8 ((UInt8.ofNat (q0 + (k * 16 + j))).toNat : Int)) := hr1.at_ (i := k * 16 + j) (by omega)
            rw [mod256] at c1
            have Hr1 := Lib.hid hr1; clear hr1; have Hb := Lib.hid hb; clear hb
            go_wp2
            go_roundw
            case rel => exact ⟨j + 1, by omega, by go_num, by go_num, Hr1.out, Hb.out⟩
            case measure => simp [intOf]; omega
          · obtain rfl : j = 16 := by omega
            have Hr1 := Lib.hid hr1; clear hr1; have Hb := Lib.hid hb; clear hb
            go_wp2
            go_roundw
            case rel => exact ⟨k + 1, by omega, by go_num, by rw [show (k + 1) * 16 = k * 16 + 16 by omega], Hr1.out, Hb.out⟩
            case measure => simp [intOf]; omega
      · obtain rfl : k = n := by omega
        have Hr1 := Lib.hid hr1; clear hr1; have Hb := Lib.hid hb; clear hb
        go_wp2
        go_ret
        exact ⟨rfl, Hb.out⟩
end Go.Proofs.Ytnkfghoajpghkaa
