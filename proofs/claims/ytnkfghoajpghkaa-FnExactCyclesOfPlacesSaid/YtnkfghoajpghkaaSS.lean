/- Slices of slices of longs: what is known of them, and the laws' helpers on them. No condition. -/
import Derived.Test.YtnkfghoajpghkaaRows
import Derived.Test.YtnkfghoajpghkaaSlices
import Derived.Test.YtnkfghoajpghkaaSliIn
set_option linter.unusedVariables false
namespace Go.Proofs.Ytnkfghoajpghkaa
open Go.RowKit
/-- v is a row of n slices of longs, each with a row of its own, all apart. -/
structure SS (w : World) (B : Nat) (v : Value) (n : Nat) (vals : Nat → Value) (len : Nat → Nat) (f : Nat → Nat → Int) : Prop where
  row : RowF w B 36 v n vals
  each : ∀ i, i < n → RowF w B 2 (vals i) (len i) (lng (f i))
  full : ∀ i, i < n → 0 < len i ∧ len i ≤ 16
  apart : ∀ i j, i < n → j < n → i ≠ j → (vals i).ownBlock ≠ (vals j).ownBlock
theorem RowF.typ {w : World} {B n : Nat} {e : TypeId} {v : Value} {f : Nat → Value} (h : RowF w B e v n f) : ∀ g, v.ownBlock = some g → ∃ cs, w.heap[g]? = some (.cells cs e (0, 0)) := by
  intro g hg
  rcases h.2 with ⟨rfl, _⟩ | ⟨g', cap, cur, rfl, _, hk, _⟩
  · cases hg
  · injection hg with hg
    subst hg
    exact ⟨_, hk⟩
theorem RowF.other {w : World} {B B' n m : Nat} {e t : TypeId} {u v : Value} {f g : Nat → Value} (h : RowF w B e u n f) (k : RowF w B' t v m g) (hne : e ≠ t) : u.ownBlock = none ∨ u.ownBlock ≠ v.ownBlock := by
  cases hu : u.ownBlock with
  | none => exact .inl rfl
  | some a =>
    refine .inr fun e => ?_
    obtain ⟨cs, h1⟩ := h.typ a hu
    obtain ⟨ds, h2⟩ := k.typ a e.symm
    rw [h1] at h2
    injection h2 with h2
    injection h2 with _ h2
    exact hne h2
theorem SS.below {w w' : World} {B n : Nat} {v : Value} {vals : Nat → Value} {len : Nat → Nat} {f : Nat → Nat → Int} (h : SS w B v n vals len f) (hb : Below w.heap.size w w') : SS w' B v n vals len f :=
  ⟨h.row.below hb (Nat.le_refl _), fun i hi => (h.each i hi).below hb (Nat.le_refl _), h.full, h.apart⟩
/-- One row written anew. -/
theorem SS.put {w w' : World} {B n k : Nat} {v : Value} {vals : Nat → Value} {len : Nat → Nat} {f : Nat → Nat → Int} {q : Nat → Int} (h : SS w B v n vals len f) (hk : k < n) (hr : RowF w' B 2 (vals k) (len k) (lng q)) (hg : w.grownBy w' (vals k).ownBlock) :
    SS w' B v n vals len (upd f k q) := by
  refine ⟨h.row.kept hg (h.row.other (h.each k hk) (by decide)), fun i hi => ?_, h.full, h.apart⟩
  unfold upd
  by_cases e : i = k
  · subst e
    rw [if_pos rfl]
    exact hr
  · rw [if_neg e]
    exact (h.each i hi).kept hg (.inr (h.apart i k hi hk e))
def posT (len : Nat → Nat) (q0 : Nat) : Nat → Nat
  | 0 => q0
  | k + 1 => posT len q0 k + len k
theorem posT_le {len : Nat → Nat} {q0 n : Nat} (h : ∀ i, i < n → 0 < len i ∧ len i ≤ 16) : ∀ k, k ≤ n → posT len q0 k ≤ q0 + 16 * k
  | 0, _ => Nat.le_refl _
  | k + 1, hk => by
    have h1 := posT_le (q0 := q0) h k (by omega)
    have h2 := h k (by omega)
    unfold posT
    omega
def markF (len : Nat → Nat) (q0 : Nat) : Nat → Nat → Int := fun i j => ((posT len q0 i + j : Nat) : Int)
theorem markF_step (len : Nat → Nat) (q0 k : Nat) (f : Nat → Nat → Int) : upd (fun i => if i < k then markF len q0 i else f i) k (fun j => ((posT len q0 k + j : Nat) : Int)) = fun i => if i < k + 1 then markF len q0 i else f i := by
  funext i
  unfold upd
  by_cases h : i = k
  · subst h
    rw [if_pos rfl, if_pos (by omega)]
    rfl
  · rw [if_neg h]
    show (if i < k then markF len q0 i else f i) = _
    by_cases h2 : i < k
    · rw [if_pos h2, if_pos (by omega)]
    · rw [if_neg h2, if_neg (by omega)]
set_option maxRecDepth 100000 in
set_option maxHeartbeats 400000 in
theorem markInt64SS {B n q0 : Nat} {v : Value} {vals : Nat → Value} {len : Nat → Nat} {f : Nat → Nat → Int} (w : World) (h : SS w B v n vals len f) (hq : q0 ≤ 1000) (hn : n ≤ 16) (hB : B ≤ w.heap.size) :
    Calls Try.prog 47 #[v, .int .i64 (q0 : Int)] w fun e w' => e = .returned (.int .i64 ((posT len q0 n : Nat) : Int)) ∧ SS w' B v n vals len (markF len q0) ∧ Below B w w' := by
  obtain ⟨a1, c1, rfl, _, _, f1⟩ := h.row.form
  have hfull := h.full
  have hpos := posT_le (q0 := q0) h.full
  have H := Lib.hid h
  clear h
  go_enter Try.func47, Try.ntmps47
  go_wp2_with fail
  go_loopw [5, 1] (fun i q wr => ∃ k : Nat, k ≤ n ∧ i = .int .i64 k ∧ q = .int .i64 ((posT len q0 k : Nat) : Int) ∧ SS wr B (.slice a1 n c1) n vals len (fun i => if i < k then markF len q0 i else f i) ∧ Below B w wr)
    (fun i _ _ => n - (intOf i).toNat)
  case atStart => exact ⟨0, by omega, rfl, rfl, by simpa using H.out, Below.refl _ _⟩
  case round =>
    clear H
    obtain ⟨k, hk, rfl, rfl, hs, hb⟩ := hrel
    by_cases hlt : k < n
    · have hki : (k : Int) < n := by omega
      obtain ⟨g, rfl, _, _⟩ := f1.resolve_left (by omega)
      have c0 : wr.cell? ⟨g, k, none⟩ = some (vals k) := hs.row.at_ hlt
      have hl := hfull k hlt
      have hp := hpos k (by omega)
      have C := markInt64S (q0 := posT len q0 k) wr (hs.each k hlt) (by omega) (by omega)
      have C := Lib.hid C
      have hst : posT len q0 (k + 1) = posT len q0 k + len k := rfl
      have Hs := Lib.hid hs; clear hs; have Hb := Lib.hid hb; clear hb; have Hst := Lib.hid hst; clear hst
      clear hfull hpos
      go_wp2_with fail
      refine C.out.mono ?_
      rintro e wx ⟨rfl, hr, hg⟩
      have hs := Hs.out.put hlt hr hg
      rw [markF_step] at hs
      have hb := below_grown Hb.out hg (Nat.le_trans hB Hb.out.size) (fun q hq => ((Hs.out.each k hlt).lt q hq).1)
      have Hs := Lib.hid hs; clear hs; have Hb := Lib.hid hb; clear hb
      clear hr hg C
      go_wp2_with fail
      go_roundw
      case rel => exact ⟨k + 1, by omega, by go_num, by rw [Hst.out]; go_num, Hs.out, Hb.out⟩
      case measure => simp [intOf]; omega
    · obtain rfl : k = n := by omega
      have hs : SS wr B (.slice a1 k c1) k vals len (markF len q0) := ⟨hs.row, fun i hi => by have := hs.each i hi; simp only [if_pos hi] at this; exact this, hs.full, hs.apart⟩
      have Hs := Lib.hid hs; clear hs; have Hb := Lib.hid hb; clear hb
      go_wp2
      go_ret
      exact ⟨rfl, Hs.out, Hb.out⟩
set_option maxRecDepth 100000 in
set_option maxHeartbeats 400000 in
theorem heldInt64SS {B n q0 : Nat} {v : Value} {vals : Nat → Value} {len : Nat → Nat} (w : World) (h : SS w B v n vals len (markF len q0)) (hq : q0 ≤ 1000) (hn : n ≤ 16) :
    Calls Try.prog 48 #[v, .int .i64 (q0 : Int)] w fun e w' => e = .returned (.int .i64 ((posT len q0 n : Nat) : Int)) ∧ Below w.heap.size w w' := by
  obtain ⟨a1, c1, rfl, _, _, f1⟩ := h.row.form
  have hfull := h.full
  have hpos := posT_le (q0 := q0) h.full
  have H := Lib.hid h
  clear h
  go_enter Try.func48, Try.ntmps48
  go_wp2_with fail
  go_loopw [5, 1] (fun i q wr => ∃ k : Nat, k ≤ n ∧ i = .int .i64 k ∧ q = .int .i64 ((posT len q0 k : Nat) : Int) ∧ SS wr B (.slice a1 n c1) n vals len (markF len q0) ∧ Below w.heap.size w wr)
    (fun i _ _ => n - (intOf i).toNat)
  case atStart => exact ⟨0, by omega, rfl, rfl, H.out, Below.refl _ _⟩
  case round =>
    clear H
    obtain ⟨k, hk, rfl, rfl, hs, hb⟩ := hrel
    by_cases hlt : k < n
    · have hki : (k : Int) < n := by omega
      obtain ⟨g, rfl, _, _⟩ := f1.resolve_left (by omega)
      have c0 : wr.cell? ⟨g, k, none⟩ = some (vals k) := hs.row.at_ hlt
      have hl := hfull k hlt
      have hp := hpos k (by omega)
      have C := heldInt64S (q0 := posT len q0 k) wr (hs.each k hlt) (by omega) (by omega)
      have C := Lib.hid C
      have hst : posT len q0 (k + 1) = posT len q0 k + len k := rfl
      have Hs := Lib.hid hs; clear hs; have Hb := Lib.hid hb; clear hb; have Hst := Lib.hid hst; clear hst
      clear hfull hpos
      go_wp2_with fail
      refine C.out.mono ?_
      rintro e wx ⟨rfl, hb2⟩
      have hs := Hs.out.below hb2
      have hb := Hb.out.trans (hb2.mono Hb.out.size)
      have Hs := Lib.hid hs; clear hs; have Hb := Lib.hid hb; clear hb
      clear hb2 C
      go_wp2_with fail
      go_roundw
      case rel => exact ⟨k + 1, by omega, by go_num, by rw [Hst.out]; go_num, Hs.out, Hb.out⟩
      case measure => simp [intOf]; omega
    · obtain rfl : k = n := by omega
      have Hs := Lib.hid hs; clear hs; have Hb := Lib.hid hb; clear hb
      go_wp2
      go_ret
      exact ⟨rfl, Hb.out⟩
set_option maxRecDepth 100000 in
set_option maxHeartbeats 400000 in
theorem eqInt64SS {B1 B2 n : Nat} {v1 v2 : Value} {vals1 vals2 : Nat → Value} {len : Nat → Nat} {f : Nat → Nat → Int} (w : World) (h1 : SS w B1 v1 n vals1 len f) (h2 : SS w B2 v2 n vals2 len f) (hn : n ≤ 16) :
    Calls Try.prog 46 #[v1, v2] w fun e w' => e = .returned (.bool true) ∧ Below w.heap.size w w' := by
  obtain ⟨a1, c1, rfl, _, _, f1⟩ := h1.row.form
  obtain ⟨a2, c2, rfl, _, _, f2⟩ := h2.row.form
  have A := Lib.hid h1
  have D := Lib.hid h2
  clear h1 h2
  go_enter Try.func46, Try.ntmps46
  go_wp2_with fail
  go_loopw [5] (fun i wr => ∃ k : Nat, k ≤ n ∧ i = .int .i64 k ∧ SS wr B1 (.slice a1 n c1) n vals1 len f ∧ SS wr B2 (.slice a2 n c2) n vals2 len f ∧ Below w.heap.size w wr)
    (fun i _ => n - (intOf i).toNat)
  case atStart => exact ⟨0, by omega, rfl, A.out, D.out, Below.refl _ _⟩
  case round =>
    clear A D
    obtain ⟨k, hk, rfl, hs, ht, hb⟩ := hrel
    by_cases hlt : k < n
    · have hki : (k : Int) < n := by omega
      obtain ⟨g1, rfl, _, _⟩ := f1.resolve_left (by omega)
      obtain ⟨g2, rfl, _, _⟩ := f2.resolve_left (by omega)
      have q0 : ∀ w', Cls wr w' → w'.cell? ⟨g1, k, none⟩ = some (vals1 k) := fun w' hC => (hs.below hC).row.at_ hlt
      have q1 : ∀ w', Cls wr w' → w'.cell? ⟨g2, k, none⟩ = some (vals2 k) := fun w' hC => (ht.below hC).row.at_ hlt
      have C : ∀ w', Cls wr w' → Calls Try.prog 22 #[vals1 k, vals2 k] w' fun e w'' => e = .returned (.bool true) ∧ Cls wr w'' := fun w' hC => (eqInt64S w' ((hs.below hC).each k hlt) ((ht.below hC).each k hlt)).mono fun _ _ ⟨he, hb⟩ => ⟨he, Below.trans hC (hb.mono hC.size)⟩
      have q0 := Lib.hid q0
      have q1 := Lib.hid q1
      have C := Lib.hid C
      have Hs := Lib.hid hs; clear hs; have Ht := Lib.hid ht; clear ht; have Hb := Lib.hid hb; clear hb
      go_wp2
      refine wp_region_quiet (C := Cls wr) (by kernel_rfl) (by kernel_rfl) (cls_drew wr) ?_
      refine q_move rfl _ rfl ?_
      refine q_move rfl _ rfl ?_
      refine q_val rfl (.pointer (some ⟨g1, k, none⟩)) (fun w' hC => by go_simp) ?_
      refine q_val rfl (vals1 k) (fun w' hC => by have c := q0.out w' hC; go_simp) ?_
      refine q_move rfl _ rfl ?_
      refine q_move rfl _ rfl ?_
      refine q_val rfl (.pointer (some ⟨g2, k, none⟩)) (fun w' hC => by go_simp) ?_
      refine q_val rfl (vals2 k) (fun w' hC => by have c := q1.out w' hC; go_simp) ?_
      refine q_call rfl 22 _ (.bool true) (fun w' hC => by go_simp) C.out ?_
      refine q_val rfl (.bool false) (fun w' hC => by go_simp) ?_
      refine wpQuiet_nil ?_
      intro wx hC
      simp only [Act.put, List.setIfInBounds_toArray, List.set_cons_zero, List.set_cons_succ]
      have hs := Hs.out.below hC
      have ht := Ht.out.below hC
      have hb := Hb.out.trans (hC.mono Hb.out.size)
      have Hs := Lib.hid hs; clear hs; have Ht := Lib.hid ht; clear ht; have Hb := Lib.hid hb; clear hb
      clear hC
      go_wp2
      go_roundw
      case rel => exact ⟨k + 1, by omega, by go_num, Hs.out, Ht.out, Hb.out⟩
      case measure => simp [intOf]; omega
    · obtain rfl : k = n := by omega
      have Hs := Lib.hid hs; clear hs; have Ht := Lib.hid ht; clear ht; have Hb := Lib.hid hb; clear hb
      go_wp2
      go_ret
      exact ⟨rfl, Hb.out⟩
end Go.Proofs.Ytnkfghoajpghkaa
