/- Contracts: slices of bytes and of blocks compared by the laws. No condition. -/
import Derived.Test.YtphfiekhpicpgaaRows
import Derived.Test.YtphfiekhpicpgaaBlkS
import Derived.Test.YtphfiekhpicpgaaEqA
set_option linter.unusedVariables false
namespace Go.Proofs.Ytphfiekhpicpgaa
open Go.RowKit
set_option maxRecDepth 100000 in
set_option maxHeartbeats 400000 in
theorem bytes5 {B1 B2 n : Nat} {v1 v2 : Value} {f : Nat → UInt8} (w : World) (h1 : RowF w B1 5 v1 n (byt f)) (h2 : RowF w B2 5 v2 n (byt f)) :
    Calls Try.prog 21 #[v1, v2] w fun e w' => e = .returned (.bool true) ∧ Below w.heap.size w w' := by
  obtain ⟨a1, c1, rfl, hc1, hm1, f1⟩ := h1.form
  obtain ⟨a2, c2, rfl, hc2, hm2, f2⟩ := h2.form
  have hmx : n ≤ maxLen := Nat.le_trans hc1 hm1
  unfold maxLen at hmx
  rcases Nat.eq_zero_or_pos n with h0 | h0
  · subst h0
    clear f1 f2 hc1 hm1 hc2 hm2 hmx
    have H1 := Lib.hid h1; clear h1; have H2 := Lib.hid h2; clear h2
    go_enter Try.func21, Try.ntmps21
    go_wp2
    go_loopw [5] (fun i wr => i = .int .i64 0 ∧ Below w.heap.size w wr) (fun _ _ => 0)
    case atStart => exact ⟨rfl, Below.refl _ _⟩
    case round =>
      obtain ⟨rfl, hb⟩ := hrel
      have Hb := Lib.hid hb; clear hb
      go_wp2
      go_ret
      exact ⟨rfl, Hb.out⟩
  · obtain ⟨g1, rfl, _, _⟩ := f1.resolve_left (by omega)
    obtain ⟨g2, rfl, _, _⟩ := f2.resolve_left (by omega)
    clear f1 f2 hc1 hm1 hc2 hm2
    have H1 := Lib.hid h1; clear h1; have H2 := Lib.hid h2; clear h2
    go_enter Try.func21, Try.ntmps21
    go_wp2
    go_loopw [5] (fun i wr => ∃ k : Nat, k ≤ n ∧ i = .int .i64 k ∧ RowF wr B1 5 (.slice (some ⟨g1, 0, none⟩) n c1) n (byt f) ∧ RowF wr B2 5 (.slice (some ⟨g2, 0, none⟩) n c2) n (byt f) ∧ Below w.heap.size w wr)
      (fun i _ => n - (intOf i).toNat)
    case atStart => exact ⟨0, by omega, rfl, H1.out, H2.out, Below.refl _ _⟩
    case round =>
      obtain ⟨k, hk, rfl, hr1, hr2, hb⟩ := hrel
      by_cases hlt : k < n
      · have c1 : wr.cell? ⟨g1, k, none⟩ = some (.int .u8 ((f k).toNat : Int)) := hr1.at_ hlt
        have c2 : wr.cell? ⟨g2, k, none⟩ = some (.int .u8 ((f k).toNat : Int)) := hr2.at_ hlt
        have Hr1 := Lib.hid hr1; clear hr1; have Hr2 := Lib.hid hr2; clear hr2; have Hb := Lib.hid hb; clear hb
        have hki : (k : Int) < n := by omega
        go_wp2
        go_quiet (fail)
        go_wp2
        go_roundw
        case rel => exact ⟨k + 1, by omega, by go_num, Hr1.out.drewN _, Hr2.out.drewN _, below_drewN' Hb.out _⟩
        case measure => simp [intOf]; omega
      · obtain rfl : k = n := by omega
        have Hr1 := Lib.hid hr1; clear hr1; have Hr2 := Lib.hid hr2; clear hr2; have Hb := Lib.hid hb; clear hb
        go_wp2
        go_ret
        exact ⟨rfl, Hb.out⟩
set_option maxRecDepth 100000 in
set_option maxHeartbeats 300000 in
theorem blocks5 {B1 B2 n : Nat} {v1 v2 : Value} {f : Nat → UInt8} (w : World) (h1 : RowB w B1 55 v1 n f) (h2 : RowB w B2 55 v2 n f) :
    Calls Try.prog 27 #[v1, v2] w fun e w' => e = .returned (.bool true) ∧ Below w.heap.size w w' := by
  obtain ⟨a1, c1, rfl, hc1, hm1, f1⟩ := h1.form
  obtain ⟨a2, c2, rfl, hc2, hm2, f2⟩ := h2.form
  have hmx : n ≤ maxLen := Nat.le_trans hc1 hm1
  unfold maxLen at hmx
  rcases Nat.eq_zero_or_pos n with h0 | h0
  · subst h0
    clear f1 f2 hc1 hm1 hc2 hm2 hmx
    have H1 := Lib.hid h1; clear h1; have H2 := Lib.hid h2; clear h2
    go_enter Try.func27, Try.ntmps27
    go_wp2
    go_loopw [5] (fun i wr => i = .int .i64 0 ∧ Below w.heap.size w wr) (fun _ _ => 0)
    case atStart => exact ⟨rfl, Below.refl _ _⟩
    case round =>
      obtain ⟨rfl, hb⟩ := hrel
      have Hb := Lib.hid hb; clear hb
      go_wp2
      go_ret
      exact ⟨rfl, Hb.out⟩
  · obtain ⟨g1, rfl, _, hg1⟩ := f1.resolve_left (by omega)
    obtain ⟨g2, rfl, _, hg2⟩ := f2.resolve_left (by omega)
    clear f1 f2 hc1 hm1 hc2 hm2
    have H1 := Lib.hid h1; clear h1; have H2 := Lib.hid h2; clear h2
    go_enter Try.func27, Try.ntmps27
    go_wp2
    go_loopw [5] (fun i wr => ∃ k : Nat, k ≤ n ∧ i = .int .i64 k ∧ RowB wr B1 55 (.slice (some ⟨g1, 0, none⟩) n c1) n f ∧ RowB wr B2 55 (.slice (some ⟨g2, 0, none⟩) n c2) n f ∧ Below w.heap.size w wr)
      (fun i _ => n - (intOf i).toNat)
    case atStart => exact ⟨0, by omega, rfl, H1.out, H2.out, Below.refl _ _⟩
    case round =>
      obtain ⟨k, hk, rfl, hr1, hr2, hb⟩ := hrel
      by_cases hlt : k < n
      · have hki : (k : Int) < n := by omega
        have q0 : ∀ w', Cls wr w' → ∀ i, i < 16 → w'.cell? ⟨g1, k * 16 + i, none⟩ = some (.int .u8 ((f (k * 16 + i)).toNat : Int)) := fun w' hC i hi => (hr1.below hC (Nat.le_refl _)).at_ (by omega)
        have q1 : ∀ w', Cls wr w' → ∀ i, i < 16 → w'.cell? ⟨g2, k * 16 + i, none⟩ = some (.int .u8 ((f (k * 16 + i)).toNat : Int)) := fun w' hC i hi => (hr2.below hC (Nat.le_refl _)).at_ (by omega)
        have q0 := Lib.hid q0
        have q1 := Lib.hid q1
        have Hr1 := Lib.hid hr1; clear hr1; have Hr2 := Lib.hid hr2; clear hr2; have Hb := Lib.hid hb; clear hb
        go_wp2
        refine wp_region_quiet (C := Cls wr) (by kernel_rfl) (by kernel_rfl) (cls_drew wr) ?_
        refine q_move rfl _ rfl ?_
        refine q_move rfl _ rfl ?_
        refine q_val rfl (.pointer (some ⟨g1, k * 16, none⟩)) (fun w' hC => by go_simp) ?_
        refine q_loadC rfl _ _ rfl g1 (k * 16) rfl 16 (fun i => f (k * 16 + i)) q0.out Try.underlying55 rfl size55 ?_
        simp only [Act.put, List.setIfInBounds_toArray, List.set_cons_zero, List.set_cons_succ]
        refine q_move rfl _ rfl ?_
        refine q_move rfl _ rfl ?_
        refine q_val rfl (.pointer (some ⟨g2, k * 16, none⟩)) (fun w' hC => by go_simp) ?_
        simp only [Act.put, List.setIfInBounds_toArray, List.set_cons_zero, List.set_cons_succ]
        refine q_loadC rfl _ _ rfl g2 (k * 16) rfl 16 (fun i => f (k * 16 + i)) q1.out Try.underlying55 rfl size55 ?_
        refine q_val rfl (.bool false) (fun w' hC => exec_neqU _ _ _ _ rfl rfl rfl guardBlock (eqBlockA _) w') ?_
        refine wpQuiet_nil ?_
        intro wx hC
        simp only [Act.put, List.setIfInBounds_toArray, List.set_cons_zero, List.set_cons_succ]
        have K1 := carryK Hr1 hC
        have K2 := carryK Hr2 hC
        have l := carryS Hb hC
        go_wp2
        go_roundw
        case rel => exact ⟨k + 1, by omega, by go_num, K1.out, K2.out, l.out⟩
        case measure => simp [intOf]; omega
      · obtain rfl : k = n := by omega
        have Hr1 := Lib.hid hr1; clear hr1; have Hr2 := Lib.hid hr2; clear hr2; have Hb := Lib.hid hb; clear hb
        go_wp2
        go_ret
        exact ⟨rfl, Hb.out⟩
end Go.Proofs.Ytphfiekhpicpgaa
