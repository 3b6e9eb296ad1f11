/- Contracts: ValueIn by the program and by the reference, and the walk of the law. No condition. -/
import Derived.Test.YtnkfghoajpghkaaRows
import Derived.Test.YtnkfghoajpghkaaVal
import Derived.Test.YtnkfghoajpghkaaSlices
import Derived.BigQuiet
import Derived.Deep.DeepCutAuto
set_option linter.unusedVariables false
namespace Go.Proofs.Ytnkfghoajpghkaa
open Go.RowKit Plain
/-- A slice of bytes as it is read: its form and its cells. -/
def BytesIn (w : World) (a : Option Addr) (n : Nat) (b : Nat → UInt8) : Prop := n = 0 ∨ ∃ g off, a = some ⟨g, off, none⟩ ∧ g < w.heap.size ∧ ∀ j, j < n → w.cell? ⟨g, off + j, none⟩ = some (.int .u8 ((b j).toNat : Int))
theorem BytesIn.below {w w' : World} {a : Option Addr} {n : Nat} {b : Nat → UInt8} (h : BytesIn w a n b) (hb : Below w.heap.size w w') : BytesIn w' a n b :=
  h.imp id fun ⟨g, off, e, hg, hc⟩ => ⟨g, off, e, Nat.lt_of_lt_of_le hg hb.size, fun j hj => (hb.cell (p := ⟨g, off + j, none⟩) hg).trans (hc j hj)⟩
theorem RowF.bytesIn {w : World} {B : Nat} {e : TypeId} {v : Value} {n : Nat} {b : Nat → UInt8} (h : RowF w B e v n (byt b)) : ∃ a cap, v = .slice a n cap ∧ BytesIn w a n b := by
  obtain ⟨a, cap, rfl, _, _, hf⟩ := h.form
  refine ⟨a, cap, rfl, hf.imp id fun ⟨g, e, _, hg⟩ => ⟨g, 0, e, hg, fun j hj => ?_⟩⟩
  subst e
  rw [Nat.zero_add]
  exact h.at_ hj
def valueV (m : Int) (x n : Nat) (b : Nat → UInt8) : Int × Int := if fieldB m = true then (if n ≤ 40 then ((valN m.toNat x b n : Nat), 0) else (0, 2)) else (0, 1)
theorem ret_pairW {p : Int × Int} {a c : Int} (h : p = (a, c)) : Ending.returned (.tuple #[.int .u8 a, .int .i64 c]) = .returned (.tuple #[.int .u8 p.1, .int .i64 p.2]) := by rw [h]
set_option maxRecDepth 100000 in
set_option maxHeartbeats 800000 in
theorem l01Value (m x n cap : Nat) (a : Option Addr) (b : Nat → UInt8) (h1 : 256 ≤ m) (h2 : m < 512) (hx : x < 256) (hlen : n ≤ 1048576) (w : World) (hI : BytesIn w a n b) :
    Calls Try.prog 50 #[.int .i64 (m : Int), .slice a n cap, .int .u8 (x : Int)] w fun e w' => e = .returned (.int .u8 (valN m x b n : Int)) ∧ Below w.heap.size w w' := by
  go_enter Try.func50, Try.ntmps50
  go_wp2
  go_loopw [8, 7] (fun i s wr => ∃ (r : Nat) (z : Int), r ≤ n ∧ z = (r : Int) - 1 ∧ i = .int .i64 z ∧ s = .int .u8 (valF m x (upto (bk b n) (n - r)) : Int) ∧ Below w.heap.size w wr)
    (fun i _ _ => (intOf i + 1).toNat)
  case atStart => exact ⟨n, _, Nat.le_refl _, rfl, rfl, by rw [Nat.sub_self]; rfl, Below.refl _ _⟩
  case round =>
    obtain ⟨r, z, hr, hz, rfl, rfl, hb⟩ := hrel
    cases r with
    | succ q =>
      obtain rfl : z = (q : Int) := by omega
      obtain ⟨g, off, rfl, hg, hcs⟩ := hI.resolve_left (by omega)
      have hgr : g < wr.heap.size := Nat.lt_of_lt_of_le hg hb.size
      have hcx : wr.cell? ⟨g, off + q, none⟩ = some (.int .u8 ((b q).toNat : Int)) := (hb.cell (p := ⟨g, off + q, none⟩) hg).trans (hcs q (by omega))
      have hk : bk b n (n - (q + 1)) = (q, b q) := by unfold bk; rw [show n - 1 - (n - (q + 1)) = q by omega]
      have hs : valF m x (upto (bk b n) (n - q)) = timesI m (valF m x (upto (bk b n) (n - (q + 1)))) x ^^^ (b q).toNat := by rw [show n - q = n - (q + 1) + 1 by omega, upto_succ, hk, valF_snoc]
      obtain ⟨V, hV⟩ : ∃ V, valF m x (upto (bk b n) (n - (q + 1))) = V := ⟨_, rfl⟩
      rw [hV] at hs ⊢
      have hv : V < 256 := by rw [← hV]; exact valF_lt h1 h2 _
      have ht := timesI_lt (b := x) h1 h2 hv
      have hx2 := byteXor (timesI m V x) (b q) ht
      have hqi : (0 : Int) ≤ (q : Int) := by omega
      have hqi2 : (q : Int) < (n : Int) := by omega
      have C : ∀ w', Cls wr w' → Calls Try.prog 80 #[.int .i64 (m : Int), .int .u8 (V : Int), .int .u8 (x : Int)] w' fun e w'' => e = .returned (.int .u8 (timesI m V x : Int)) ∧ Cls wr w'' := fun w' hC => (l01Times m V x h1 h2 hv hx w').mono fun _ _ ⟨he, hw⟩ => ⟨he, by rw [hw]; exact hC⟩
      have q0 : ∀ w', Cls wr w' → w'.cell? ⟨g, off + q, none⟩ = some (.int .u8 ((b q).toNat : Int)) := fun w' hC => (Below.cell hC (p := ⟨g, off + q, none⟩) hgr).trans hcx
      have q0 := Lib.hid q0
      have C := Lib.hid C
      have HX := Lib.hid hx2
      have HS := Lib.hid hs
      clear hs hx2 hk hz hcs hI hcx hV ht hr
      have Hb := Lib.hid hb; clear hb
      go_wp2
      refine wp_region_quiet (C := Cls wr) (by kernel_rfl) (by kernel_rfl) (cls_drew wr) ?_
      refine q_move rfl _ rfl ?_
      refine q_move rfl _ rfl ?_
      refine q_move rfl _ rfl ?_
      refine q_call rfl 80 _ (.int .u8 (timesI m V x : Int)) (fun w' hC => by go_simp) C.out ?_
      refine q_move rfl _ rfl ?_
      refine q_move rfl _ rfl ?_
      refine q_val rfl (.pointer (some ⟨g, off + q, none⟩)) (fun w' hC => by go_simp) ?_
      refine q_val rfl (.int .u8 ((b q).toNat : Int)) (fun w' hC => by have c := q0.out w' hC; go_simp) ?_
      refine q_val rfl (.int .u8 ((timesI m V x ^^^ (b q).toNat : Nat) : Int)) (fun w' hC => by have c := HX.out; go_simp) ?_
      refine q_val rfl (.int .u8 ((timesI m V x ^^^ (b q).toNat : Nat) : Int)) (fun w' hC => by go_simp) ?_
      refine wpQuiet_nil ?_
      intro wx hC
      simp only [Act.put, List.setIfInBounds_toArray, List.set_cons_zero, List.set_cons_succ]
      have hb := Hb.out.trans (hC.mono Hb.out.size)
      have Hb := Lib.hid hb; clear hb
      clear hC
      go_wp2
      go_roundw
      case rel => exact ⟨q, _, by omega, rfl, rfl, by rw [HS.out], Hb.out⟩
      case measure => simp [intOf]
    | zero =>
      obtain rfl : z = -1 := by omega
      clear hz
      have Hb := Lib.hid hb; clear hb
      go_wp2
      go_ret
      exact ⟨rfl, Hb.out⟩
set_option maxRecDepth 100000 in
set_option maxHeartbeats 800000 in
theorem specValueIn (m : Int) (x n cap : Nat) (a : Option Addr) (b : Nat → UInt8) (hx : x < 256) (hlen : n ≤ 1048576) (w : World) (hI : BytesIn w a n b) :
    Calls Try.prog 12 #[.int .i64 m, .slice a n cap, .int .u8 (x : Int)] w fun e w' => e = .returned (.tuple #[.int .u8 (valueV m x n b).1, .int .i64 (valueV m x n b).2]) ∧ Below w.heap.size w w' := by
  cases hf : fieldB m with
  | false =>
    have hv : valueV m x n b = (0, 1) := by unfold valueV; rw [hf]; rfl
    have c := l01Field m
    rw [hf] at c
    have C := Lib.hid c
    clear c hf hI
    have Hv := Lib.hid hv; clear hv
    go_enter Try.func12, Try.ntmps12
    go_wp2_with (go_at_call 49; refine (C.out _).mono ?_; rintro e wx ⟨rfl, rfl⟩)
    go_ret2
    exact ⟨ret_pairW Hv.out, Below.refl _ _⟩
  | true =>
    have c := l01Field m
    rw [hf] at c
    have C := Lib.hid c
    clear c
    by_cases hn : n ≤ 40
    · have hv : valueV m x n b = (((valN m.toNat x b n : Nat) : Int), 0) := by unfold valueV; rw [hf, if_pos rfl, if_pos hn]
      have hni : ¬ (40 : Int) < (n : Int) := by omega
      obtain ⟨k, rfl, h1, h2, hF⟩ := fieldB_nat hf
      rw [Int.toNat_natCast] at hv
      have D := l01Value k x n cap a b h1 h2 hx hlen w hI
      have D := Lib.hid D
      clear hF hf hI hn
      have Hv := Lib.hid hv; clear hv
      go_enter Try.func12, Try.ntmps12
      go_wp2_with (first | (go_at_call 49; refine (C.out _).mono ?_; rintro e wx ⟨rfl, hw⟩; rw [hw]; clear hw wx) | (go_at_call 50; refine D.out.mono ?_; rintro e wx ⟨rfl, hb⟩))
      go_ret2
      exact ⟨ret_pairW Hv.out, hb⟩
    · have hv : valueV m x n b = (0, 2) := by unfold valueV; rw [hf, if_pos rfl, if_neg hn]
      have hni : (40 : Int) < (n : Int) := by omega
      clear hf hI hn
      have Hv := Lib.hid hv; clear hv
      go_enter Try.func12, Try.ntmps12
      go_wp2_with (go_at_call 49; refine (C.out _).mono ?_; rintro e wx ⟨rfl, rfl⟩)
      go_ret2
      exact ⟨ret_pairW Hv.out, Below.refl _ _⟩
set_option maxRecDepth 100000 in
set_option maxHeartbeats 800000 in
theorem implValueIn (m : Int) (x n cap : Nat) (a : Option Addr) (b : Nat → UInt8) (hx : x < 256) (hlen : n ≤ 1048576) (w : World) (hI : BytesIn w a n b) :
    Calls Try.prog 14 #[.int .i64 m, .slice a n cap, .int .u8 (x : Int)] w fun e w' => e = .returned (.tuple #[.int .u8 (valueV m x n b).1, .int .i64 (valueV m x n b).2]) ∧ Below w.heap.size w w' := by
  cases hf : fieldB m with
  | false =>
    have hv : valueV m x n b = (0, 1) := by unfold valueV; rw [hf]; rfl
    have c := implIsField m
    rw [hf] at c
    have C := Lib.hid c
    clear c hf hI
    have Hv := Lib.hid hv; clear hv
    go_enter Try.func14, Try.ntmps14
    go_wp2_with (go_at_call 51; refine (C.out _).mono ?_; rintro e wx ⟨rfl, rfl⟩)
    go_ret2
    exact ⟨ret_pairW Hv.out, Below.refl _ _⟩
  | true =>
    have c := implIsField m
    rw [hf] at c
    have C := Lib.hid c
    clear c
    by_cases hn : n ≤ 40
    · have hv : valueV m x n b = (((valN m.toNat x b n : Nat) : Int), 0) := by unfold valueV; rw [hf, if_pos rfl, if_pos hn]
      have hni : ¬ (40 : Int) < (n : Int) := by omega
      obtain ⟨k, rfl, h1, h2, hF⟩ := fieldB_nat hf
      rw [Int.toNat_natCast] at hv
      have D := fValue k x n cap a b h1 h2 hx hlen w hI
      have D := Lib.hid D
      clear hF hf hI hn
      have Hv := Lib.hid hv; clear hv
      go_enter Try.func14, Try.ntmps14
      go_wp2_with (first | (go_at_call 51; refine (C.out _).mono ?_; rintro e wx ⟨rfl, hw⟩; rw [hw]; clear hw wx) | (go_at_call 52; refine D.out.mono ?_; rintro e wx ⟨rfl, hb⟩))
      go_ret2
      exact ⟨ret_pairW Hv.out, hb⟩
    · have hv : valueV m x n b = (0, 2) := by unfold valueV; rw [hf, if_pos rfl, if_neg hn]
      have hni : (40 : Int) < (n : Int) := by omega
      clear hf hI hn
      have Hv := Lib.hid hv; clear hv
      go_enter Try.func14, Try.ntmps14
      go_wp2_with (go_at_call 51; refine (C.out _).mono ?_; rintro e wx ⟨rfl, rfl⟩)
      go_ret2
      exact ⟨ret_pairW Hv.out, Below.refl _ _⟩
set_option maxRecDepth 100000 in
set_option maxHeartbeats 1600000 in
theorem fnExactValueIn.walk (m : Int) (a0 : Option Addr) (n cap : Nat) (b : Nat → UInt8) (x : UInt8) (w : World) (lo0 : -9223372036854775808 ≤ m) (hi0 : m ≤ 9223372036854775807) (hs : ByteS w a0 n cap b) :
    Calls Try.prog 3 #[.int .i64 m, .slice a0 n cap, .int .u8 (x.toNat : Int)] w fun e w' => e = .returned (.bool true) ∧ Below w.heap.size w w' := by
  by_cases hn : n ≤ 1048576
  · have hn' : ¬ (1048576 : Int) < (n : Int) := by omega
    have HS := Lib.hid hs
    clear hs
    go_enter Try.func3, Try.ntmps3
    have l := Lib.hid (Below.refl w.heap.size w)
    go_wp2_with fail
    refine (toByteS a0 n cap b _ (HS.out.below l.out) hn).mono ?_
    rintro e wx ⟨va, rfl, hr, hb⟩
    obtain ⟨aa, ca, rfl, hI⟩ := hr.bytesIn
    have l := carryS l hb
    have HI := Lib.hid hI
    clear hr hb hI
    go_wp2_with fail
    refine (specValueIn m x.toNat n ca aa b x.toNat_lt hn _ HI.out).mono ?_
    rintro e wx ⟨rfl, hb⟩
    have l := carryS l hb
    clear hb HI
    go_wp2_with fail
    refine (toByteS a0 n cap b _ (HS.out.below l.out) hn).mono ?_
    rintro e wx ⟨vx, rfl, hr, hb⟩
    obtain ⟨ax, cx, rfl, hI⟩ := hr.bytesIn
    have l := carryS l hb
    have rx := Lib.hid hr
    have HI := Lib.hid hI
    clear hr hb hI
    go_wp2_with fail
    refine (implValueIn m x.toNat n cx ax b x.toNat_lt hn _ HI.out).mono ?_
    rintro e wx ⟨rfl, hb⟩
    have l := carryS l hb
    have rx := carryR rx hb
    clear hb HI
    go_wp2_with fail
    refine (toByteS a0 n cap b _ (HS.out.below l.out) hn).mono ?_
    rintro e wx ⟨vy, rfl, hr, hb⟩
    have l := carryS l hb
    have rx := carryR rx hb
    have ry := Lib.hid hr
    clear hr hb
    go_wp2_with fail
    refine (eqByteS _ rx.out ry.out).mono ?_
    rintro e wx ⟨rfl, hb⟩
    have l := carryS l hb
    clear hb
    go_wp2_with fail
    go_ret
    exact ⟨rfl, l.out⟩
  · have hn' : (1048576 : Int) < (n : Int) := by omega
    clear hs
    go_enter Try.func3, Try.ntmps3
    go_wp2
    go_ret
    exact ⟨rfl, Below.refl _ _⟩
end Go.Proofs.Ytnkfghoajpghkaa
