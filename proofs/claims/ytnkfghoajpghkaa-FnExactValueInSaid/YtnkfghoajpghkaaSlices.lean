/- Contracts: the laws' helpers on slices. No condition. -/
import Derived.Test.YtnkfghoajpghkaaRows
import Derived.Test.YtnkfghoajpghkaaSli
import Derived.Test.YtnkfghoajpghkaaOpen
namespace Go.Proofs.Ytnkfghoajpghkaa
open Go.RowKit
theorem info_long : (Try.prog.info? 2).map (fun i => (i.zero, i.size, i.bytes)) = some (some (.int .i64 0), 1, 8) := by kernel_rfl
theorem info_byte : (Try.prog.info? 5).map (fun i => (i.zero, i.size, i.bytes)) = some (some (.int .u8 0), 1, 1) := by kernel_rfl
def lng (f : Nat → Int) : Nat → Value := fun i => .int .i64 (f i)
def byt (f : Nat → UInt8) : Nat → Value := fun i => .int .u8 ((f i).toNat : Int)
theorem lng_put (f : Nat → Int) (i : Nat) (x : Int) : upd (lng f) i (.int .i64 x) = lng (upd f i x) := by
  funext j
  by_cases h : j = i <;> simp [upd, lng, h]
theorem byt_put (f : Nat → UInt8) (i : Nat) (x : UInt8) : upd (byt f) i (.int .u8 (x.toNat : Int)) = byt (upd f i x) := by
  funext j
  by_cases h : j = i <;> simp [upd, byt, h]
theorem mod256 (k : Nat) : ((UInt8.ofNat k).toNat : Int) = (k : Int) % 256 := by
  have : (UInt8.ofNat k).toNat = k % 256 := UInt8.toNat_ofNat'
  omega
theorem below_any {B : Nat} {w w' : World} (h : Below w.heap.size w w') (hb : B ≤ w.heap.size) : Below B w w' := h.mono hb

set_option maxRecDepth 100000 in
set_option maxHeartbeats 400000 in
theorem eqInt64S {B1 B2 n : Nat} {v1 v2 : Value} {f : Nat → Int} (w : World) (h1 : RowF w B1 2 v1 n (lng f)) (h2 : RowF w B2 2 v2 n (lng f)) :
    Calls Try.prog 22 #[v1, v2] w fun e w' => e = .returned (.bool true) ∧ Below w.heap.size w w' := by
  obtain ⟨a1, c1, rfl, hc1, hm1, f1⟩ := h1.form
  obtain ⟨a2, c2, rfl, hc2, hm2, f2⟩ := h2.form
  have hmx : n ≤ maxLen := Nat.le_trans hc1 hm1
  unfold maxLen at hmx
  rcases Nat.eq_zero_or_pos n with h0 | h0
  · subst h0
    clear f1 f2 hc1 hm1 hc2 hm2 hmx
    have H1 := Lib.hid h1; clear h1; have H2 := Lib.hid h2; clear h2
    go_enter Try.func22, Try.ntmps22
    go_wp2
    go_loopw [5] (fun i wr => i = .int .i64 0 ∧ Below w.heap.size w wr) (fun _ _ => 0)
    case atStart => exact ⟨rfl, Below.refl _ _⟩
    case round =>
      obtain ⟨rfl, hb⟩ := hrel
      have Hb := Lib.hid hb; clear hb
      go_wp2
      go_ret
      exact ⟨rfl, Hb.out⟩
  · obtain ⟨g1, rfl, _, _⟩ := f1.resolve_left (by omega)
    obtain ⟨g2, rfl, _, _⟩ := f2.resolve_left (by omega)
    clear f1 f2 hc1 hm1 hc2 hm2
    have H1 := Lib.hid h1; clear h1; have H2 := Lib.hid h2; clear h2
    go_enter Try.func22, Try.ntmps22
    go_wp2
    go_loopw [5] (fun i wr => ∃ k : Nat, k ≤ n ∧ i = .int .i64 k ∧ RowF wr B1 2 (.slice (some ⟨g1, 0, none⟩) n c1) n (lng f) ∧ RowF wr B2 2 (.slice (some ⟨g2, 0, none⟩) n c2) n (lng f) ∧ Below w.heap.size w wr)
      (fun i _ => n - (intOf i).toNat)
    case atStart => exact ⟨0, by omega, rfl, H1.out, H2.out, Below.refl _ _⟩
    case round =>
      obtain ⟨k, hk, rfl, hr1, hr2, hb⟩ := hrel
      by_cases hlt : k < n
      · have c1 : wr.cell? ⟨g1, k, none⟩ = some (.int .i64 (f k)) := hr1.at_ hlt
        have c2 : wr.cell? ⟨g2, k, none⟩ = some (.int .i64 (f k)) := hr2.at_ hlt
        have Hr1 := Lib.hid hr1; clear hr1; have Hr2 := Lib.hid hr2; clear hr2; have Hb := Lib.hid hb; clear hb
        have hki : (k : Int) < n := by omega
        go_wp2
        go_quiet (fail)
        go_wp2
        go_roundw
        case rel => exact ⟨k + 1, by omega, by go_num, Hr1.out.drewN _, Hr2.out.drewN _, below_drewN' Hb.out _⟩
        case measure => simp [intOf]; omega
      · obtain rfl : k = n := by omega
        have Hr1 := Lib.hid hr1; clear hr1; have Hr2 := Lib.hid hr2; clear hr2; have Hb := Lib.hid hb; clear hb
        go_wp2
        go_ret
        exact ⟨rfl, Hb.out⟩
theorem markInt64S_step {q0 k : Nat} (f : Nat → Int) : upd (fun i => if i < k then (fun i => ((q0 + i : Nat) : Int)) i else f i) k ((fun i => ((q0 + i : Nat) : Int)) k) = fun i => if i < k + 1 then (fun i => ((q0 + i : Nat) : Int)) i else f i := by
  funext i
  unfold upd
  by_cases h : i = k
  · subst h; simp
  · by_cases h2 : i < k
    · simp [h, h2, show i < k + 1 by omega]
    · simp [h, h2, show ¬ i < k + 1 by omega]
set_option maxRecDepth 100000 in
set_option maxHeartbeats 400000 in
theorem markInt64S {B n q0 : Nat} {v : Value} {f : Nat → Int} (w : World) (h1 : RowF w B 2 v n (lng f)) (hq : q0 ≤ 4294967296) (hn : n ≤ 4294967296) :
    Calls Try.prog 23 #[v, .int .i64 (q0 : Int)] w fun e w' => e = .returned (.int .i64 ((q0 + n : Nat) : Int)) ∧ RowF w' B 2 v n (lng (fun i => ((q0 + i : Nat) : Int))) ∧ w.grownBy w' v.ownBlock := by
  obtain ⟨a1, c1, rfl, hc1, hm1, f1⟩ := h1.form
  rcases Nat.eq_zero_or_pos n with h0 | h0
  · subst h0
    clear f1 hc1 hm1
    have H1 := Lib.hid h1; clear h1
    go_enter Try.func23, Try.ntmps23
    go_wp2
    go_loopw [5, 1] (fun i q wr => i = .int .i64 0 ∧ q = .int .i64 (q0 : Int) ∧ wr = w) (fun _ _ _ => 0)
    case atStart => exact ⟨rfl, rfl, rfl⟩
    case round =>
      obtain ⟨rfl, rfl, rfl⟩ := hrel
      go_wp2
      go_ret
      exact ⟨rfl, H1.out, World.grownBy.refl _ _⟩
  · obtain ⟨g1, rfl, _, _⟩ := f1.resolve_left (by omega)
    clear f1 hc1 hm1
    have H1 := Lib.hid h1; clear h1
    go_enter Try.func23, Try.ntmps23
    go_wp2
    go_loopw [5, 1] (fun i q wr => ∃ k : Nat, k ≤ n ∧ i = .int .i64 k ∧ q = .int .i64 ((q0 + k : Nat) : Int) ∧ RowF wr B 2 (.slice (some ⟨g1, 0, none⟩) n c1) n (lng (fun i => if i < k then (fun i => ((q0 + i : Nat) : Int)) i else f i)) ∧ w.grownBy wr (some g1))
      (fun i _ _ => n - (intOf i).toNat)
    case atStart => exact ⟨0, by omega, rfl, rfl, H1.out.congr fun i hi => by simp [lng], World.grownBy.refl _ _⟩
    case round =>
      obtain ⟨k, hk, rfl, rfl, hr1, hb⟩ := hrel
      by_cases hlt : k < n
      · have hki : (k : Int) < n := by omega
        have fz := hr1.fz k
        have c1 : wr.cell? ⟨g1, k, none⟩ = some _ := hr1.at_ hlt
        skip
        have Hr1 := Lib.hid hr1; clear hr1; have Hb := Lib.hid hb; clear hb
        go_wp2
        go_roundw
        case rel => exact ⟨k + 1, by omega, by go_num, by go_num, by have := Hr1.out.put k (.int .i64 ((q0 + k : Nat) : Int)); rw [lng_put, markInt64S_step] at this; exact this, Hb.out.trans (Hr1.out.grow k _)⟩
        case measure => simp [intOf]; omega
      · obtain rfl : k = n := by omega
        have Hr1 := Lib.hid hr1; clear hr1; have Hb := Lib.hid hb; clear hb
        go_wp2
        go_ret
        exact ⟨rfl, Hr1.out.congr fun i hi => by simp [lng, hi], Hb.out⟩
set_option maxRecDepth 100000 in
set_option maxHeartbeats 400000 in
theorem heldInt64S {B n q0 : Nat} {v : Value} (w : World) (h1 : RowF w B 2 v n (lng (fun i => ((q0 + i : Nat) : Int)))) (hq : q0 ≤ 4294967296) (hn : n ≤ 4294967296) :
    Calls Try.prog 24 #[v, .int .i64 (q0 : Int)] w fun e w' => e = .returned (.int .i64 ((q0 + n : Nat) : Int)) ∧ Below w.heap.size w w' := by
  obtain ⟨a1, c1, rfl, hc1, hm1, f1⟩ := h1.form
  rcases Nat.eq_zero_or_pos n with h0 | h0
  · subst h0
    clear f1 hc1 hm1
    have H1 := Lib.hid h1; clear h1
    go_enter Try.func24, Try.ntmps24
    go_wp2
    go_loopw [5, 1] (fun i q wr => i = .int .i64 0 ∧ q = .int .i64 (q0 : Int) ∧ wr = w) (fun _ _ _ => 0)
    case atStart => exact ⟨rfl, rfl, rfl⟩
    case round =>
      obtain ⟨rfl, rfl, rfl⟩ := hrel
      go_wp2
      go_ret
      exact ⟨rfl, Below.refl _ _⟩
  · obtain ⟨g1, rfl, _, _⟩ := f1.resolve_left (by omega)
    clear f1 hc1 hm1
    have H1 := Lib.hid h1; clear h1
    go_enter Try.func24, Try.ntmps24
    go_wp2
    go_loopw [5, 1] (fun i q wr => ∃ k : Nat, k ≤ n ∧ i = .int .i64 k ∧ q = .int .i64 ((q0 + k : Nat) : Int) ∧ RowF wr B 2 (.slice (some ⟨g1, 0, none⟩) n c1) n (lng (fun i => ((q0 + i : Nat) : Int))) ∧ Below w.heap.size w wr)
      (fun i _ _ => n - (intOf i).toNat)
    case atStart => exact ⟨0, by omega, rfl, rfl, H1.out, Below.refl _ _⟩
    case round =>
      obtain ⟨k, hk, rfl, rfl, hr1, hb⟩ := hrel
      by_cases hlt : k < n
      · have hki : (k : Int) < n := by omega
        have c1 : wr.cell? ⟨g1, k, none⟩ = some (.int .i64 ((q0 + k : Nat) : Int)) := hr1.at_ hlt
        skip
        have Hr1 := Lib.hid hr1; clear hr1; have Hb := Lib.hid hb; clear hb
        go_wp2
        skip
        go_roundw
        case rel => exact ⟨k + 1, by omega, by go_num, by go_num, Hr1.out, Hb.out⟩
        case measure => simp [intOf]; omega
      · obtain rfl : k = n := by omega
        have Hr1 := Lib.hid hr1; clear hr1; have Hb := Lib.hid hb; clear hb
        go_wp2
        go_ret
        exact ⟨rfl, Hb.out⟩
set_option maxRecDepth 100000 in
set_option maxHeartbeats 400000 in
theorem eqByteS {B1 B2 n : Nat} {v1 v2 : Value} {f : Nat → UInt8} (w : World) (h1 : RowF w B1 5 v1 n (byt f)) (h2 : RowF w B2 5 v2 n (byt f)) :
    Calls Try.prog 15 #[v1, v2] w fun e w' => e = .returned (.bool true) ∧ Below w.heap.size w w' := by
  obtain ⟨a1, c1, rfl, hc1, hm1, f1⟩ := h1.form
  obtain ⟨a2, c2, rfl, hc2, hm2, f2⟩ := h2.form
  have hmx : n ≤ maxLen := Nat.le_trans hc1 hm1
  unfold maxLen at hmx
  rcases Nat.eq_zero_or_pos n with h0 | h0
  · subst h0
    clear f1 f2 hc1 hm1 hc2 hm2 hmx
    have H1 := Lib.hid h1; clear h1; have H2 := Lib.hid h2; clear h2
    go_enter Try.func15, Try.ntmps15
    go_wp2
    go_loopw [5] (fun i wr => i = .int .i64 0 ∧ Below w.heap.size w wr) (fun _ _ => 0)
    case atStart => exact ⟨rfl, Below.refl _ _⟩
    case round =>
      obtain ⟨rfl, hb⟩ := hrel
      have Hb := Lib.hid hb; clear hb
      go_wp2
      go_ret
      exact ⟨rfl, Hb.out⟩
  · obtain ⟨g1, rfl, _, _⟩ := f1.resolve_left (by omega)
    obtain ⟨g2, rfl, _, _⟩ := f2.resolve_left (by omega)
    clear f1 f2 hc1 hm1 hc2 hm2
    have H1 := Lib.hid h1; clear h1; have H2 := Lib.hid h2; clear h2
    go_enter Try.func15, Try.ntmps15
    go_wp2
    go_loopw [5] (fun i wr => ∃ k : Nat, k ≤ n ∧ i = .int .i64 k ∧ RowF wr B1 5 (.slice (some ⟨g1, 0, none⟩) n c1) n (byt f) ∧ RowF wr B2 5 (.slice (some ⟨g2, 0, none⟩) n c2) n (byt f) ∧ Below w.heap.size w wr)
      (fun i _ => n - (intOf i).toNat)
    case atStart => exact ⟨0, by omega, rfl, H1.out, H2.out, Below.refl _ _⟩
    case round =>
      obtain ⟨k, hk, rfl, hr1, hr2, hb⟩ := hrel
      by_cases hlt : k < n
      · have c1 : wr.cell? ⟨g1, k, none⟩ = some (.int .u8 ((f k).toNat : Int)) := hr1.at_ hlt
        have c2 : wr.cell? ⟨g2, k, none⟩ = some (.int .u8 ((f k).toNat : Int)) := hr2.at_ hlt
        have Hr1 := Lib.hid hr1; clear hr1; have Hr2 := Lib.hid hr2; clear hr2; have Hb := Lib.hid hb; clear hb
        have hki : (k : Int) < n := by omega
        go_wp2
        go_quiet (fail)
        go_wp2
        go_roundw
        case rel => exact ⟨k + 1, by omega, by go_num, Hr1.out.drewN _, Hr2.out.drewN _, below_drewN' Hb.out _⟩
        case measure => simp [intOf]; omega
      · obtain rfl : k = n := by omega
        have Hr1 := Lib.hid hr1; clear hr1; have Hr2 := Lib.hid hr2; clear hr2; have Hb := Lib.hid hb; clear hb
        go_wp2
        go_ret
        exact ⟨rfl, Hb.out⟩
theorem markByteS_step {q0 k : Nat} (f : Nat → UInt8) : upd (fun i => if i < k then (fun i => UInt8.ofNat (q0 + i)) i else f i) k ((fun i => UInt8.ofNat (q0 + i)) k) = fun i => if i < k + 1 then (fun i => UInt8.ofNat (q0 + i)) i else f i := by
  funext i
  unfold upd
  by_cases h : i = k
  · subst h; simp
  · by_cases h2 : i < k
    · simp [h, h2, show i < k + 1 by omega]
    · simp [h, h2, show ¬ i < k + 1 by omega]
set_option maxRecDepth 100000 in
set_option maxHeartbeats 400000 in
theorem markByteS {B n q0 : Nat} {v : Value} {f : Nat → UInt8} (w : World) (h1 : RowF w B 5 v n (byt f)) (hq : q0 ≤ 4294967296) (hn : n ≤ 4294967296) :
    Calls Try.prog 30 #[v, .int .i64 (q0 : Int)] w fun e w' => e = .returned (.int .i64 ((q0 + n : Nat) : Int)) ∧ RowF w' B 5 v n (byt (fun i => UInt8.ofNat (q0 + i))) ∧ w.grownBy w' v.ownBlock := by
  obtain ⟨a1, c1, rfl, hc1, hm1, f1⟩ := h1.form
  rcases Nat.eq_zero_or_pos n with h0 | h0
  · subst h0
    clear f1 hc1 hm1
    have H1 := Lib.hid h1; clear h1
    go_enter Try.func30, Try.ntmps30
    go_wp2
    go_loopw [5, 1] (fun i q wr => i = .int .i64 0 ∧ q = .int .i64 (q0 : Int) ∧ wr = w) (fun _ _ _ => 0)
    case atStart => exact ⟨rfl, rfl, rfl⟩
    case round =>
      obtain ⟨rfl, rfl, rfl⟩ := hrel
      go_wp2
      go_ret
      exact ⟨rfl, H1.out, World.grownBy.refl _ _⟩
  · obtain ⟨g1, rfl, _, _⟩ := f1.resolve_left (by omega)
    clear f1 hc1 hm1
    have H1 := Lib.hid h1; clear h1
    go_enter Try.func30, Try.ntmps30
    go_wp2
    go_loopw [5, 1] (fun i q wr => ∃ k : Nat, k ≤ n ∧ i = .int .i64 k ∧ q = .int .i64 ((q0 + k : Nat) : Int) ∧ RowF wr B 5 (.slice (some ⟨g1, 0, none⟩) n c1) n (byt (fun i => if i < k then (fun i => UInt8.ofNat (q0 + i)) i else f i)) ∧ w.grownBy wr (some g1))
      (fun i _ _ => n - (intOf i).toNat)
    case atStart => exact ⟨0, by omega, rfl, rfl, H1.out.congr fun i hi => by simp [byt], World.grownBy.refl _ _⟩
    case round =>
      obtain ⟨k, hk, rfl, rfl, hr1, hb⟩ := hrel
      by_cases hlt : k < n
      · have hki : (k : Int) < n := by omega
        have fz := hr1.fz k
        have c1 : wr.cell? ⟨g1, k, none⟩ = some _ := hr1.at_ hlt
        have em := mod256 (q0 + k)
        have Hr1 := Lib.hid hr1; clear hr1; have Hb := Lib.hid hb; clear hb
        go_wp2
        go_roundw
        case rel => exact ⟨k + 1, by omega, by go_num, by go_num, by have := Hr1.out.put k (.int .u8 ((UInt8.ofNat (q0 + k)).toNat : Int)); rw [byt_put, markByteS_step] at this; exact this, Hb.out.trans (Hr1.out.grow k _)⟩
        case measure => simp [intOf]; omega
      · obtain rfl : k = n := by omega
        have Hr1 := Lib.hid hr1; clear hr1; have Hb := Lib.hid hb; clear hb
        go_wp2
        go_ret
        exact ⟨rfl, Hr1.out.congr fun i hi => by simp [byt, hi], Hb.out⟩
set_option maxRecDepth 100000 in
set_option maxHeartbeats 400000 in
theorem heldByteS {B n q0 : Nat} {v : Value} (w : World) (h1 : RowF w B 5 v n (byt (fun i => UInt8.ofNat (q0 + i)))) (hq : q0 ≤ 4294967296) (hn : n ≤ 4294967296) :
    Calls Try.prog 31 #[v, .int .i64 (q0 : Int)] w fun e w' => e = .returned (.int .i64 ((q0 + n : Nat) : Int)) ∧ Below w.heap.size w w' := by
  obtain ⟨a1, c1, rfl, hc1, hm1, f1⟩ := h1.form
  rcases Nat.eq_zero_or_pos n with h0 | h0
  · subst h0
    clear f1 hc1 hm1
    have H1 := Lib.hid h1; clear h1
    go_enter Try.func31, Try.ntmps31
    go_wp2
    go_loopw [5, 1] (fun i q wr => i = .int .i64 0 ∧ q = .int .i64 (q0 : Int) ∧ wr = w) (fun _ _ _ => 0)
    case atStart => exact ⟨rfl, rfl, rfl⟩
    case round =>
      obtain ⟨rfl, rfl, rfl⟩ := hrel
      go_wp2
      go_ret
      exact ⟨rfl, Below.refl _ _⟩
  · obtain ⟨g1, rfl, _, _⟩ := f1.resolve_left (by omega)
    clear f1 hc1 hm1
    have H1 := Lib.hid h1; clear h1
    go_enter Try.func31, Try.ntmps31
    go_wp2
    go_loopw [5, 1] (fun i q wr => ∃ k : Nat, k ≤ n ∧ i = .int .i64 k ∧ q = .int .i64 ((q0 + k : Nat) : Int) ∧ RowF wr B 5 (.slice (some ⟨g1, 0, none⟩) n c1) n (byt (fun i => UInt8.ofNat (q0 + i))) ∧ Below w.heap.size w wr)
      (fun i _ _ => n - (intOf i).toNat)
    case atStart => exact ⟨0, by omega, rfl, rfl, H1.out, Below.refl _ _⟩
    case round =>
      obtain ⟨k, hk, rfl, rfl, hr1, hb⟩ := hrel
      by_cases hlt : k < n
      · have hki : (k : Int) < n := by omega
        have c1 : wr.cell? ⟨g1, k, none⟩ = some (.int .u8 ((UInt8.ofNat (q0 + k)).toNat : Int)) := hr1.at_ hlt
        rw [mod256] at c1
        have Hr1 := Lib.hid hr1; clear hr1; have Hb := Lib.hid hb; clear hb
        go_wp2
        skip
        go_roundw
        case rel => exact ⟨k + 1, by omega, by go_num, by go_num, Hr1.out, Hb.out⟩
        case measure => simp [intOf]; omega
      · obtain rfl : k = n := by omega
        have Hr1 := Lib.hid hr1; clear hr1; have Hb := Lib.hid hb; clear hb
        go_wp2
        go_ret
        exact ⟨rfl, Hb.out⟩
end Go.Proofs.Ytnkfghoajpghkaa
