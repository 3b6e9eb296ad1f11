/- Contracts: circulant matrices, by the program and by the reference, and the walk of the law. No condition. -/
import Derived.Test.YtdhlfbipljelcaaRows
import Derived.Test.YtdhlfbipljelcaaLaws
import Derived.Test.YtdhlfbipljelcaaPerm
import Derived.Test.YtdhlfbipljelcaaMat
import Derived.Test.YtdhlfbipljelcaaSliIn
set_option linter.unusedVariables false
namespace Go.Proofs.Ytdhlfbipljelcaa
open Go.RowKit Plain
def circ (f : Nat → UInt8) (i : Nat) : UInt8 := f ((i % 4 + 4 - i / 4) % 4)
theorem circ_at (f : Nat → UInt8) {k q : Nat} (hq : q < 4) : circ f (k * 4 + q) = f ((q + 4 - k) % 4) := by
  unfold circ
  rw [show (k * 4 + q) % 4 = q by omega, show (k * 4 + q) / 4 = k by omega]
theorem circ_step (f : Nat → UInt8) {k q : Nat} (hq : q < 4) : byteRow 16 (upd (fun i => if i < k * 4 + q then circ f i else 0) (k * 4 + q) (f ((q + 4 - k) % 4))) = byteRow 16 (fun i => if i < k * 4 + (q + 1) then circ f i else 0) := by
  rw [← circ_at f hq, upd_fill]
  rfl
def circV (n : Nat) (f : Nat → UInt8) : Nat → UInt8 := if n = 4 then circ f else fun _ => 0
def circC (n : Nat) : Int := if n = 4 then 0 else 2
theorem ret_pairM {a b : Array Value} {n m : Int} (h : a = b) (h2 : n = m) : Ending.returned (.tuple #[.agg a, .int .i64 n]) = .returned (.tuple #[.agg b, .int .i64 m]) := by rw [h, h2]
theorem builtMat : Try.prog.built 61 [] = some (byteRow 16 (fun _ => 0)) := by kernel_rfl
theorem row_ne {w : World} {B n : Nat} {e : TypeId} {g cap : Nat} {f : Nat → Value} (h : RowF w B e (.slice (some ⟨g, 0, none⟩) n cap) n f) : g < w.heap.size := (h.lt g rfl).2

set_option maxRecDepth 100000 in
set_option maxHeartbeats 800000 in
theorem l03Circulant {B : Nat} {v : Value} {f : Nat → UInt8} (w : World) (hrow : RowF w B 5 v 4 (byt f)) :
    Calls Try.prog 74 #[v] w fun e w' => e = .returned (.agg (byteRow 16 (circ f))) ∧ Below w.heap.size w w' := by
  obtain ⟨a1, cap, rfl, hc1, hm1, f1⟩ := hrow.form
  obtain ⟨g, rfl, _, hgl⟩ := f1.resolve_left (by omega)
  have hrr := RowF.below (C := w.heap.size) hrow (below_row (((Below.refl w.heap.size w).alloc (by omega) (.cells #[.int .u8 0, .int .u8 0, .int .u8 0, .int .u8 0, .int .u8 0, .int .u8 0, .int .u8 0, .int .u8 0, .int .u8 0, .int .u8 0, .int .u8 0, .int .u8 0, .int .u8 0, .int .u8 0, .int .u8 0, .int .u8 0] 61)).alloc (by simp) (.cells #[.int .u8 0, .int .u8 0, .int .u8 0, .int .u8 0, .int .u8 0, .int .u8 0, .int .u8 0, .int .u8 0, .int .u8 0, .int .u8 0, .int .u8 0, .int .u8 0, .int .u8 0, .int .u8 0, .int .u8 0, .int .u8 0] 61)) (g := w.heap.size + 1) (by omega) (byteRow 16 (fun _ => 0))) (Nat.le_refl _)
  rw [zero16] at hrr
  clear f1 hc1 hm1 hrow
  have Hrr := Lib.hid hrr; clear hrr
  go_enter Try.func74, Try.ntmps74
  go_wp2_with (first | (refine wpList_buildZ rfl _ rfl builtMat ?_) | (refine wpList_storeR rfl _ _ _ rfl _ _ rfl rfl ((Blk.newAt (by simp)).eq_ zero16) size61 (byteRow_size _ _) (byteRow_size _ _) (byteRow_all _ _) ?_))
  go_loopw [4] (fun i wr => ∃ k : Nat, k ≤ 4 ∧ i = .int .i64 k ∧ Blk wr w.heap.size 61 (byteRow 16 (fun _ => 0)) ∧ Blk wr (w.heap.size + 1) 61 (byteRow 16 (fun i => if i < k * 4 then circ f i else 0)) ∧ RowF wr B 5 (.slice (some ⟨g, 0, none⟩) 4 cap) 4 (byt f) ∧ Below w.heap.size w wr)
    (fun i _ => 4 - (intOf i).toNat)
  case atStart =>
    rw [zero16]
    exact ⟨0, by omega, rfl, ((Blk.newAt (w := w) (by simp)).alloc _).rowFar (by omega) _, ((Blk.newAt (w := w.alloc _) (by simp)).setRow _).eq_ (byteRow_congr fun i _ => by simp), Hrr.out, below_row (((Below.refl _ _).alloc (by omega) _).alloc (by simp) _) (by omega) _⟩
  case round =>
    obtain ⟨k, hk, rfl, b0, b1, br, hb⟩ := hrel
    by_cases hlt : k < 4
    · have hki : (k : Int) < 4 := by omega
      have k0 := Lib.hid b0
      have k1 := Lib.hid b1
      have kr := Lib.hid br
      have l := Lib.hid hb
      clear b0 b1 br hb
      obtain ⟨wo, rfl⟩ : ∃ wo : World, wo = wr := ⟨_, rfl⟩
      go_wp2
      go_loopw [5] (fun j wr => ∃ q : Nat, q ≤ 4 ∧ j = .int .i64 q ∧ Blk wr w.heap.size 61 (byteRow 16 (fun _ => 0)) ∧ Blk wr (w.heap.size + 1) 61 (byteRow 16 (fun i => if i < k * 4 + q then circ f i else 0)) ∧ RowF wr B 5 (.slice (some ⟨g, 0, none⟩) 4 cap) 4 (byt f) ∧ Below w.heap.size w wr)
        (fun j _ => 4 - (intOf j).toNat)
      case atStart => exact ⟨0, by omega, rfl, k0.out, k1.out, kr.out, l.out⟩
      case round =>
        clear k0 k1 kr l
        obtain ⟨q, hq, rfl, b0, b1, br, hb⟩ := hrel
        by_cases hqt : q < 4
        · have hqi : (q : Int) < 4 := by omega
          obtain ⟨r, hr⟩ : ∃ r, (q + 4 - k) % 4 = r := ⟨_, rfl⟩
          have hr4 : r < 4 := by omega
          have hri : ((q : Int) + 4 - (k : Int)) % 4 = (r : Int) := by omega
          have hrl : (r : Int) < 4 := by omega
          have hst := circ_step f (k := k) hqt
          rw [hr] at hst
          clear hr
          have c0 : wr.cell? ⟨g, r, none⟩ = some (.int .u8 ((f r).toNat : Int)) := br.at_ hr4
          have c1 := b1.byteAt (i := k * 4 + q) (by omega)
          have f1 := b1.frozen (k * 4 + q)
          have H0 := Lib.hid b0; clear b0; have H1 := Lib.hid b1; clear b1; have Hr := Lib.hid br; clear br; have Hb := Lib.hid hb; clear hb; have Hst := Lib.hid hst; clear hst
          go_wp2
          go_region
          go_wp2
          go_roundw
          case rel => exact ⟨q + 1, by omega, by go_num, H0.out.farC (by omega) _, (H1.out.bytePut (k * 4 + q) (f r)).eq_ Hst.out, Hr.out.far (p := ⟨w.heap.size + 1, k * 4 + q, none⟩) (fun e => by have e2 : g = w.heap.size + 1 := Option.some.inj e; omega) _, (Hb.out.setCell (p := ⟨w.heap.size + 1, k * 4 + q, none⟩) (by show _ ≤ _ + 1; omega) _).drew⟩
          case measure => simp [intOf]; omega
        · obtain rfl : q = 4 := by omega
          have b1 := b1.eq_ (byteRow_congr (c := fun i => if i < (k + 1) * 4 then circ f i else 0) fun i _ => by rw [show k * 4 + 4 = (k + 1) * 4 by omega])
          have H0 := Lib.hid b0; clear b0; have H1 := Lib.hid b1; clear b1; have Hr := Lib.hid br; clear br; have Hb := Lib.hid hb; clear hb
          go_wp2
          go_roundw
          case rel => exact ⟨k + 1, by omega, by go_num, H0.out, H1.out, Hr.out, Hb.out⟩
          case measure => simp [intOf]; omega
    · obtain rfl : k = 4 := by omega
      have b1' := b1.eq_ (byteRow_congr (c := circ f) fun i hi => if_pos (by omega))
      clear b1
      have H0 := Lib.hid b0; clear b0; have H1' := Lib.hid b1'; clear b1'; have Hr := Lib.hid br; clear br; have Hb := Lib.hid hb; clear hb
      go_wp2_with (first | (refine wpList_loadR rfl _ _ rfl _ rfl H1'.out Try.underlying61 rfl size61 (byteRow_size _ _) ?_) | (refine wpList_storeR rfl _ _ _ rfl _ _ rfl rfl H0.out size61 (byteRow_size _ _) (byteRow_size _ _) (byteRow_all _ _) ?_))
      refine bodyPost_ret (results_cellB rfl _ _ _ rfl (H0.out.setRow _) Try.underlying61 rfl size61 (byteRow_size _ _)) rfl ⟨rfl, below_row Hb.out (by omega) _⟩
set_option maxRecDepth 100000 in
set_option maxHeartbeats 800000 in
theorem specCirculant {B n : Nat} {v : Value} {f : Nat → UInt8} (w : World) (hrow : RowF w B 5 v n (byt f)) :
    Calls Try.prog 47 #[v] w fun e w' => e = .returned (.tuple #[.agg (byteRow 16 (circV n f)), .int .i64 (circC n)]) ∧ Below w.heap.size w w' := by
  have k1 := Lib.hid ((Blk.newAt (t := 61) (cs := #[.int .u8 0, .int .u8 0, .int .u8 0, .int .u8 0, .int .u8 0, .int .u8 0, .int .u8 0, .int .u8 0, .int .u8 0, .int .u8 0, .int .u8 0, .int .u8 0, .int .u8 0, .int .u8 0, .int .u8 0, .int .u8 0]) (w := w) (n := w.heap.size) (by simp)).eq_ zero16)
  have l := Lib.hid ((Below.refl w.heap.size w).alloc (Nat.le_refl _) (.cells #[.int .u8 0, .int .u8 0, .int .u8 0, .int .u8 0, .int .u8 0, .int .u8 0, .int .u8 0, .int .u8 0, .int .u8 0, .int .u8 0, .int .u8 0, .int .u8 0, .int .u8 0, .int .u8 0, .int .u8 0, .int .u8 0] 61))
  by_cases h4 : n = 4
  · subst h4
    have hv : circV 4 f = circ f := rfl
    have hc : circC 4 = 0 := rfl
    have c := l03Circulant _ (hrow.alloc (.cells #[.int .u8 0, .int .u8 0, .int .u8 0, .int .u8 0, .int .u8 0, .int .u8 0, .int .u8 0, .int .u8 0, .int .u8 0, .int .u8 0, .int .u8 0, .int .u8 0, .int .u8 0, .int .u8 0, .int .u8 0, .int .u8 0] 61))
    obtain ⟨a1, cap, rfl, hc1, hm1, f1⟩ := hrow.form
    have C := Lib.hid c
    clear f1 hc1 hm1 hrow c
    have Hv := Lib.hid hv; clear hv; have Hc := Lib.hid hc; clear hc
    go_enter Try.func47, Try.ntmps47
    go_wp2_with fail
    refine C.out.mono ?_
    rintro e wx ⟨rfl, hb⟩
    have k1 := carryB k1 hb
    have l := carryS l hb
    clear hb
    go_wp2_with (refine wpList_storeR rfl _ _ _ rfl _ _ rfl rfl k1.out size61 (byteRow_size _ _) (byteRow_size _ _) (byteRow_all _ _) ?_)
    refine bodyPost_ret (results_cellB_tmp rfl _ _ _ rfl (k1.out.setRow _) Try.underlying61 rfl size61 (byteRow_size _ _)) rfl ⟨ret_pairM (by rw [Hv.out]) Hc.out.symm, below_row l.out (by omega) _⟩
  · have hv : circV n f = fun _ => 0 := by unfold circV; rw [if_neg h4]
    have hc : circC n = 2 := by unfold circC; rw [if_neg h4]
    obtain ⟨a1, cap, rfl, hc1, hm1, f1⟩ := hrow.form
    have e4 : ((n : Int) == 4) = false := by rw [beq_eq_false_iff_ne]; omega
    clear f1 hc1 hm1 hrow
    have Hv := Lib.hid hv; clear hv; have Hc := Lib.hid hc; clear hc
    go_enter Try.func47, Try.ntmps47
    go_wp2_with (first | (refine wpList_buildZ rfl _ rfl builtMat ?_) | (refine wpList_storeR rfl _ _ _ rfl _ _ rfl rfl k1.out size61 (byteRow_size _ _) (byteRow_size _ _) (byteRow_all _ _) ?_))
    refine bodyPost_ret (results_cellB_tmp rfl _ _ _ rfl (k1.out.setRow _) Try.underlying61 rfl size61 (byteRow_size _ _)) rfl ⟨ret_pairM (by rw [Hv.out]) Hc.out.symm, below_row l.out (by omega) _⟩
set_option maxRecDepth 100000 in
set_option maxHeartbeats 800000 in
theorem implCirculant {B n : Nat} {v : Value} {f : Nat → UInt8} (w : World) (hrow : RowF w B 5 v n (byt f)) :
    Calls Try.prog 49 #[v] w fun e w' => e = .returned (.tuple #[.agg (byteRow 16 (circV n f)), .int .i64 (circC n)]) ∧ Below w.heap.size w w' := by
  have k1 := Lib.hid ((Blk.newAt (t := 61) (cs := #[.int .u8 0, .int .u8 0, .int .u8 0, .int .u8 0, .int .u8 0, .int .u8 0, .int .u8 0, .int .u8 0, .int .u8 0, .int .u8 0, .int .u8 0, .int .u8 0, .int .u8 0, .int .u8 0, .int .u8 0, .int .u8 0]) (w := w) (n := w.heap.size) (by simp)).eq_ zero16)
  have l := Lib.hid ((Below.refl w.heap.size w).alloc (Nat.le_refl _) (.cells #[.int .u8 0, .int .u8 0, .int .u8 0, .int .u8 0, .int .u8 0, .int .u8 0, .int .u8 0, .int .u8 0, .int .u8 0, .int .u8 0, .int .u8 0, .int .u8 0, .int .u8 0, .int .u8 0, .int .u8 0, .int .u8 0] 61))
  by_cases h4 : n = 4
  · subst h4
    have hv : circV 4 f = circ f := rfl
    have hc : circC 4 = 0 := rfl
    obtain ⟨a1, cap, rfl, hc1, hm1, f1⟩ := hrow.form
    obtain ⟨g, rfl, _, hgl⟩ := f1.resolve_left (by omega)
    have hrr := RowF.below (C := w.heap.size) hrow (below_row (((Below.refl w.heap.size w).alloc (by omega) (.cells #[.int .u8 0, .int .u8 0, .int .u8 0, .int .u8 0, .int .u8 0, .int .u8 0, .int .u8 0, .int .u8 0, .int .u8 0, .int .u8 0, .int .u8 0, .int .u8 0, .int .u8 0, .int .u8 0, .int .u8 0, .int .u8 0] 61)).alloc (by simp) (.cells #[.int .u8 0, .int .u8 0, .int .u8 0, .int .u8 0, .int .u8 0, .int .u8 0, .int .u8 0, .int .u8 0, .int .u8 0, .int .u8 0, .int .u8 0, .int .u8 0, .int .u8 0, .int .u8 0, .int .u8 0, .int .u8 0] 61)) (g := w.heap.size + 1) (by omega) (byteRow 16 (fun _ => 0))) (Nat.le_refl _)
    rw [zero16] at hrr
    clear f1 hc1 hm1 hrow k1 l
    have Hrr := Lib.hid hrr; clear hrr; have Hv := Lib.hid hv; clear hv; have Hc := Lib.hid hc; clear hc
    go_enter Try.func49, Try.ntmps49
    go_wp2_with (first | (refine wpList_buildZ rfl _ rfl builtMat ?_) | (refine wpList_storeR rfl _ _ _ rfl _ _ rfl rfl ((Blk.newAt (by simp)).eq_ zero16) size61 (byteRow_size _ _) (byteRow_size _ _) (byteRow_all _ _) ?_))
    go_loopw [12] (fun i wr => ∃ k : Nat, k ≤ 4 ∧ i = .int .i64 k ∧ Blk wr w.heap.size 61 (byteRow 16 (fun _ => 0)) ∧ Blk wr (w.heap.size + 1) 61 (byteRow 16 (fun i => if i < k * 4 then circ f i else 0)) ∧ RowF wr B 5 (.slice (some ⟨g, 0, none⟩) 4 cap) 4 (byt f) ∧ Below w.heap.size w wr)
      (fun i _ => 4 - (intOf i).toNat)
    case atStart =>
      rw [zero16]
      exact ⟨0, by omega, rfl, ((Blk.newAt (w := w) (by simp)).alloc _).rowFar (by omega) _, ((Blk.newAt (w := w.alloc _) (by simp)).setRow _).eq_ (byteRow_congr fun i _ => by simp), Hrr.out, below_row (((Below.refl _ _).alloc (by omega) _).alloc (by simp) _) (by omega) _⟩
    case round =>
      obtain ⟨k, hk, rfl, b0, b1, br, hb⟩ := hrel
      by_cases hlt : k < 4
      · have hki : (k : Int) < 4 := by omega
        have k0 := Lib.hid b0
        have k1 := Lib.hid b1
        have kr := Lib.hid br
        have l := Lib.hid hb
        clear b0 b1 br hb
        obtain ⟨wo, rfl⟩ : ∃ wo : World, wo = wr := ⟨_, rfl⟩
        go_wp2
        go_loopw [15] (fun j wr => ∃ q : Nat, q ≤ 4 ∧ j = .int .i64 q ∧ Blk wr w.heap.size 61 (byteRow 16 (fun _ => 0)) ∧ Blk wr (w.heap.size + 1) 61 (byteRow 16 (fun i => if i < k * 4 + q then circ f i else 0)) ∧ RowF wr B 5 (.slice (some ⟨g, 0, none⟩) 4 cap) 4 (byt f) ∧ Below w.heap.size w wr)
          (fun j _ => 4 - (intOf j).toNat)
        case atStart => exact ⟨0, by omega, rfl, k0.out, k1.out, kr.out, l.out⟩
        case round =>
          clear k0 k1 kr l
          obtain ⟨q, hq, rfl, b0, b1, br, hb⟩ := hrel
          by_cases hqt : q < 4
          · have hqi : (q : Int) < 4 := by omega
            obtain ⟨r, hr⟩ : ∃ r, (q + 4 - k) % 4 = r := ⟨_, rfl⟩
            have hr4 : r < 4 := by omega
            have hri : ((q : Int) + 4 - (k : Int)) % 4 = (r : Int) := by omega
            have hrl : (r : Int) < 4 := by omega
            have hst := circ_step f (k := k) hqt
            rw [hr] at hst
            clear hr
            have c0 : wr.cell? ⟨g, r, none⟩ = some (.int .u8 ((f r).toNat : Int)) := br.at_ hr4
            have c1 := b1.byteAt (i := k * 4 + q) (by omega)
            have f1 := b1.frozen (k * 4 + q)
            have H0 := Lib.hid b0; clear b0; have H1 := Lib.hid b1; clear b1; have Hr := Lib.hid br; clear br; have Hb := Lib.hid hb; clear hb; have Hst := Lib.hid hst; clear hst
            go_wp2
            go_region
            go_wp2
            go_roundw
            case rel => exact ⟨q + 1, by omega, by go_num, H0.out.farC (by omega) _, (H1.out.bytePut (k * 4 + q) (f r)).eq_ Hst.out, Hr.out.far (p := ⟨w.heap.size + 1, k * 4 + q, none⟩) (fun e => by have e2 : g = w.heap.size + 1 := Option.some.inj e; omega) _, (Hb.out.setCell (p := ⟨w.heap.size + 1, k * 4 + q, none⟩) (by show _ ≤ _ + 1; omega) _).drew⟩
            case measure => simp [intOf]; omega
          · obtain rfl : q = 4 := by omega
            have b1 := b1.eq_ (byteRow_congr (c := fun i => if i < (k + 1) * 4 then circ f i else 0) fun i _ => by rw [show k * 4 + 4 = (k + 1) * 4 by omega])
            have H0 := Lib.hid b0; clear b0; have H1 := Lib.hid b1; clear b1; have Hr := Lib.hid br; clear br; have Hb := Lib.hid hb; clear hb
            go_wp2
            go_roundw
            case rel => exact ⟨k + 1, by omega, by go_num, H0.out, H1.out, Hr.out, Hb.out⟩
            case measure => simp [intOf]; omega
      · obtain rfl : k = 4 := by omega
        have b1' := b1.eq_ (byteRow_congr (c := circ f) fun i hi => if_pos (by omega))
        clear b1
        have H0 := Lib.hid b0; clear b0; have H1' := Lib.hid b1'; clear b1'; have Hr := Lib.hid br; clear br; have Hb := Lib.hid hb; clear hb
        go_wp2_with (first | (refine wpList_loadR rfl _ _ rfl _ rfl H1'.out Try.underlying61 rfl size61 (byteRow_size _ _) ?_) | (refine wpList_storeR rfl _ _ _ rfl _ _ rfl rfl H0.out size61 (byteRow_size _ _) (byteRow_size _ _) (byteRow_all _ _) ?_))
        refine bodyPost_ret (results_cellB_tmp rfl _ _ _ rfl (H0.out.setRow _) Try.underlying61 rfl size61 (byteRow_size _ _)) rfl ⟨ret_pairM (by rw [Hv.out]) Hc.out.symm, below_row Hb.out (by omega) _⟩
  · have hv : circV n f = fun _ => 0 := by unfold circV; rw [if_neg h4]
    have hc : circC n = 2 := by unfold circC; rw [if_neg h4]
    obtain ⟨a1, cap, rfl, hc1, hm1, f1⟩ := hrow.form
    have e4 : ((n : Int) == 4) = false := by rw [beq_eq_false_iff_ne]; omega
    clear f1 hc1 hm1 hrow
    have Hv := Lib.hid hv; clear hv; have Hc := Lib.hid hc; clear hc
    go_enter Try.func49, Try.ntmps49
    go_wp2_with (first | (refine wpList_buildZ rfl _ rfl builtMat ?_) | (refine wpList_storeR rfl _ _ _ rfl _ _ rfl rfl k1.out size61 (byteRow_size _ _) (byteRow_size _ _) (byteRow_all _ _) ?_))
    refine bodyPost_ret (results_cellB_tmp rfl _ _ _ rfl (k1.out.setRow _) Try.underlying61 rfl size61 (byteRow_size _ _)) rfl ⟨ret_pairM (by rw [Hv.out]) Hc.out.symm, below_row l.out (by omega) _⟩
end Go.Proofs.Ytdhlfbipljelcaa
