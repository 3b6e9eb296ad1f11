/- Contracts of the laws' helpers: likeInts, sum, big. No condition. -/
import Derived.Test.YtphfiekhpicpgaaRows
import Derived.Test.YtphfiekhpicpgaaLaws
import Derived.Test.YtphfiekhpicpgaaSlices
import Derived.BigQuiet
set_option linter.unusedVariables false
namespace Go.Proofs.Ytphfiekhpicpgaa
open Go.RowKit
set_option maxRecDepth 100000 in
set_option maxHeartbeats 300000 in
theorem likeInts {B1 B2 n : Nat} {v1 v2 : Value} {f : Nat → Int} (w : World) (h1 : RowF w B1 2 v1 n (lng f)) (h2 : RowF w B2 2 v2 n (lng f)) :
    Calls Try.prog 36 #[v1, v2] w fun e w' => e = .returned (.bool true) ∧ Below w.heap.size w w' := by
  obtain ⟨a1, c1, rfl, hc1, hm1, f1⟩ := h1.form
  obtain ⟨a2, c2, rfl, hc2, hm2, f2⟩ := h2.form
  have hmx : n ≤ maxLen := Nat.le_trans hc1 hm1
  unfold maxLen at hmx
  rcases Nat.eq_zero_or_pos n with h0 | h0
  · subst h0
    clear f1 f2 hc1 hm1 hc2 hm2 hmx
    have H1 := Lib.hid h1; clear h1; have H2 := Lib.hid h2; clear h2
    go_enter Try.func36, Try.ntmps36
    go_wp2
    go_loopw [5] (fun i wr => i = .int .i64 0 ∧ Below w.heap.size w wr) (fun _ _ => 0)
    case atStart => exact ⟨rfl, Below.refl _ _⟩
    case round =>
      obtain ⟨rfl, hb⟩ := hrel
      have Hb := Lib.hid hb; clear hb
      go_wp2
      go_ret
      exact ⟨rfl, Hb.out⟩
  · obtain ⟨g1, rfl, _, _⟩ := f1.resolve_left (by omega)
    obtain ⟨g2, rfl, _, _⟩ := f2.resolve_left (by omega)
    clear f1 f2 hc1 hm1 hc2 hm2
    have H1 := Lib.hid h1; clear h1; have H2 := Lib.hid h2; clear h2
    go_enter Try.func36, Try.ntmps36
    go_wp2
    go_loopw [5] (fun i wr => ∃ k : Nat, k ≤ n ∧ i = .int .i64 k ∧ RowF wr B1 2 (.slice (some ⟨g1, 0, none⟩) n c1) n (lng f) ∧ RowF wr B2 2 (.slice (some ⟨g2, 0, none⟩) n c2) n (lng f) ∧ Below w.heap.size w wr)
      (fun i _ => n - (intOf i).toNat)
    case atStart => exact ⟨0, by omega, rfl, H1.out, H2.out, Below.refl _ _⟩
    case round =>
      obtain ⟨k, hk, rfl, hr1, hr2, hb⟩ := hrel
      by_cases hlt : k < n
      · have c1 : wr.cell? ⟨g1, k, none⟩ = some (.int .i64 (f k)) := hr1.at_ hlt
        have c2 : wr.cell? ⟨g2, k, none⟩ = some (.int .i64 (f k)) := hr2.at_ hlt
        have Hr1 := Lib.hid hr1; clear hr1; have Hr2 := Lib.hid hr2; clear hr2; have Hb := Lib.hid hb; clear hb
        have hki : (k : Int) < n := by omega
        go_wp2
        go_quiet (fail)
        go_wp2
        go_roundw
        case rel => exact ⟨k + 1, by omega, by go_num, Hr1.out.drewN _, Hr2.out.drewN _, below_drewN' Hb.out _⟩
        case measure => simp [intOf]; omega
      · obtain rfl : k = n := by omega
        have Hr1 := Lib.hid hr1; clear hr1; have Hr2 := Lib.hid hr2; clear hr2; have Hb := Lib.hid hb; clear hb
        go_wp2
        go_ret
        exact ⟨rfl, Hb.out⟩
def sumF (f : Nat → Int) : Nat → Int
  | 0 => 0
  | n + 1 => sumF f n + f n
theorem sumF_in {f : Nat → Int} : ∀ n : Nat, (∀ i, i < n → 0 ≤ f i ∧ f i ≤ 65536) → 0 ≤ sumF f n ∧ sumF f n ≤ 65536 * (n : Int)
  | 0, _ => ⟨Int.le_refl _, Int.le_refl _⟩
  | n + 1, h => by
    have h1 := sumF_in n fun i hi => h i (by omega)
    have h2 := h n (by omega)
    show 0 ≤ sumF f n + f n ∧ sumF f n + f n ≤ _
    omega
theorem sumF_snoc (l : List Int) (z : Int) : ∀ n, n ≤ l.length → sumF (fun i => (l ++ [z]).getD i 0) n = sumF (fun i => l.getD i 0) n
  | 0, _ => rfl
  | n + 1, h => by
    show sumF _ n + (l ++ [z]).getD n 0 = sumF _ n + l.getD n 0
    rw [sumF_snoc l z n (by omega), List.getD_eq_getElem?_getD, List.getD_eq_getElem?_getD, List.getElem?_append_left (by omega)]
theorem sumF_list (l : List Int) : sumF (fun i => l.getD i 0) l.length = l.sum := by
  suffices h : ∀ r : List Int, sumF (fun i => r.reverse.getD i 0) r.length = r.reverse.sum by
    have := h l.reverse
    rwa [List.reverse_reverse, List.length_reverse] at this
  intro r
  induction r with
  | nil => rfl
  | cons z r ih =>
    rw [List.reverse_cons, List.length_cons, List.sum_append]
    show sumF (fun i => (r.reverse ++ [z]).getD i 0) r.length + (r.reverse ++ [z]).getD r.length 0 = _
    rw [sumF_snoc _ _ _ (by simp), ih, List.getD_eq_getElem?_getD, List.getElem?_append_right (by simp)]
    simp
set_option maxRecDepth 100000 in
set_option maxHeartbeats 300000 in
theorem lsum {B n : Nat} {v : Value} {f : Nat → Int} (w : World) (h1 : RowF w B 2 v n (lng f)) (hn : n ≤ 1000) (hf : ∀ i, i < n → 0 ≤ f i ∧ f i ≤ 65536) :
    Calls Try.prog 38 #[v] w fun e w' => e = .returned (.int .i64 (sumF f n)) ∧ Below w.heap.size w w' := by
  obtain ⟨a1, c1, rfl, hc1, hm1, f1⟩ := h1.form
  rcases Nat.eq_zero_or_pos n with h0 | h0
  · subst h0
    clear f1 hc1 hm1
    have H1 := Lib.hid h1; clear h1
    go_enter Try.func38, Try.ntmps38
    go_wp2
    go_loopw [4, 3] (fun i s wr => i = .int .i64 0 ∧ s = .int .i64 0 ∧ Below w.heap.size w wr) (fun _ _ _ => 0)
    case atStart => exact ⟨rfl, rfl, Below.refl _ _⟩
    case round =>
      obtain ⟨rfl, rfl, hb⟩ := hrel
      have Hb := Lib.hid hb; clear hb
      go_wp2
      go_ret
      exact ⟨rfl, Hb.out⟩
  · obtain ⟨g1, rfl, _, _⟩ := f1.resolve_left (by omega)
    clear f1 hc1 hm1
    have HF := Lib.hid hf
    clear hf
    have H1 := Lib.hid h1; clear h1
    go_enter Try.func38, Try.ntmps38
    go_wp2
    go_loopw [4, 3] (fun i s wr => ∃ k : Nat, k ≤ n ∧ i = .int .i64 k ∧ s = .int .i64 (sumF f k) ∧ RowF wr B 2 (.slice (some ⟨g1, 0, none⟩) n c1) n (lng f) ∧ Below w.heap.size w wr)
      (fun i _ _ => n - (intOf i).toNat)
    case atStart => exact ⟨0, by omega, rfl, rfl, H1.out, Below.refl _ _⟩
    case round =>
      obtain ⟨k, hk, rfl, rfl, hr1, hb⟩ := hrel
      by_cases hlt : k < n
      · have c1 : wr.cell? ⟨g1, k, none⟩ = some (.int .i64 (f k)) := hr1.at_ hlt
        obtain ⟨s1, s2⟩ := sumF_in k fun i hi => HF.out i (by omega)
        obtain ⟨b1, b2⟩ := HF.out k hlt
        obtain ⟨s, hs⟩ : ∃ s, sumF f k = s := ⟨_, rfl⟩
        obtain ⟨z, hz⟩ : ∃ z, f k = z := ⟨_, rfl⟩
        have hst : sumF f (k + 1) = s + z := by show sumF f k + f k = _; rw [hs, hz]
        rw [hs] at s1 s2 ⊢
        rw [hz] at b1 b2 c1
        clear hs hz
        have Hr1 := Lib.hid hr1; clear hr1; have Hb := Lib.hid hb; clear hb; have Hst := Lib.hid hst; clear hst
        have hki : (k : Int) < n := by omega
        go_wp2
        go_roundw
        case rel => exact ⟨k + 1, by omega, by go_num, by rw [Hst.out], Hr1.out, Hb.out⟩
        case measure => simp [intOf]; omega
      · obtain rfl : k = n := by omega
        have Hr1 := Lib.hid hr1; clear hr1; have Hb := Lib.hid hb; clear hb
        go_wp2
        go_ret
        exact ⟨rfl, Hb.out⟩
theorem lbig (a : Option Addr) (n cap : Nat) (w : World) :
    Calls Try.prog 6 #[.slice a n cap] w fun e w' => e = .returned (.bool (decide ((4096 : Int) < (n : Int)))) ∧ w' = w := by
  go_enter Try.func6, Try.ntmps6
  go_wp2
  go_ret
  exact ⟨rfl, rfl⟩
end Go.Proofs.Ytphfiekhpicpgaa
