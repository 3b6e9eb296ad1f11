/- Contracts: bytes, lists of bytes and blocks drawn from a source. No condition. -/
import Derived.Test.YtphfiekhpicpgaaRows
import Derived.Test.YtphfiekhpicpgaaDrawT
import Derived.Test.YtphfiekhpicpgaaBlkI
set_option linter.unusedVariables false
namespace Go.Proofs.Ytphfiekhpicpgaa
open Go.RowKit Plain
def litL (L : List Int) : Array Value := (L.map fun x => Value.int .i64 x).toArray
theorem pickLit {w : World} {B g : Nat} (hS : Src w B g) (L : List Int) (cap : Nat) (h0 : 0 < L.length) (h1 : L.length ≤ 1000) :
    Calls Try.prog 52 #[.pointer (some ⟨g, 0, none⟩), .slice (some ⟨w.heap.size, 0, none⟩) L.length cap] (w.alloc (.cells (litL L) 2)) fun e w' => ∃ i : Nat, i < L.length ∧ e = .returned (.int .i64 (L.getD i 0)) ∧ Src w' B g ∧ w.grownBy w' (some g) := by
  have hg := alloc_grown w (.cells (litL L) 2) (some g)
  have kl : Lst (w.alloc (.cells (litL L) 2)) w.heap.size L.length (fun i => L.getD i 0) := ⟨(Blk.new w _ _).lt, fun i hi => by
    rw [(Blk.new w 2 (litL L)).cell i]
    unfold litL
    simp [hi]⟩
  have hlt := hS.lt
  refine (l01Pick (cap := cap) (hS.below ((Below.refl _ w).alloc (Nat.le_refl _) _)) kl (by omega) h0 (by omega)).mono ?_
  rintro e wx ⟨i, hi, rfl, hs, hg2⟩
  exact ⟨i, hi, rfl, hs, hg.trans hg2⟩
set_option maxRecDepth 100000 in
set_option maxHeartbeats 800000 in
theorem l01DrawByte {w : World} {B g : Nat} (hS : Src w B g) :
    Calls Try.prog 89 #[.pointer (some ⟨g, 0, none⟩)] w fun e w' => ∃ x : UInt8, e = .returned (.int .u8 (x.toNat : Int)) ∧ Src w' B g ∧ w.grownBy w' (some g) := by
  have S := Lib.hid hS
  clear hS
  go_enter Try.func89, Try.ntmps89
  go_wp2_with fail
  refine (l01Next S.out 4 (by omega) (by omega)).mono ?_
  rintro e wx ⟨x, hx, rfl, hs, hg⟩
  have G := Lib.hid hg
  replace S := Lib.hid hs
  clear hs hg
  go_wp2_with fail
  refine (l01Next S.out 256 (by omega) (by omega)).mono ?_
  rintro e wx ⟨y, hy, rfl, hs, hg⟩
  replace G := Lib.hid (G.out.trans hg)
  replace S := Lib.hid hs
  clear hs hg
  go_wp2_with fail
  refine (l01Next S.out 256 (by omega) (by omega)).mono ?_
  rintro e wx ⟨z, hz, rfl, hs, hg⟩
  replace G := Lib.hid (G.out.trans hg)
  replace S := Lib.hid hs
  clear hs hg
  go_wp2_with fail
  refine (pickLit S.out [(x : Int), (y : Int), (z : Int), 255] 4 (by simp) (by simp)).mono ?_
  rintro e wy ⟨i, hi, rfl, hs, hg⟩
  replace G := Lib.hid (G.out.trans hg)
  replace S := Lib.hid hs
  clear hs hg
  obtain ⟨q, hq, hq2⟩ : ∃ q : Nat, q < 256 ∧ [(x : Int), (y : Int), (z : Int), 255].getD i 0 = (q : Int) := by
    match i, hi with
    | 0, _ => exact ⟨x, by omega, rfl⟩
    | 1, _ => exact ⟨y, hy, rfl⟩
    | 2, _ => exact ⟨z, hz, rfl⟩
    | 3, _ => exact ⟨255, by omega, rfl⟩
  rw [hq2]
  have hw := wrapU8_small hq
  clear hq2
  go_wp2_with fail
  go_ret
  exact ⟨UInt8.ofNat q, by rw [toNat_ofNat_lt hq]; rfl, S.out, G.out⟩
theorem LB.keptOwn {w w' : World} {B g : Nat} {e : TypeId} {v : Value} {L : List UInt8} (h : LB w B e v L) (hg : w.grownBy w' (some g)) (hB : g < B) : LB w' B e v L := by
  refine ⟨h.1, World.ownsRow.kept h.2 hg (.inr fun e1 => ?_)⟩
  have := (h.lt g e1).1
  omega
theorem SrcG.below {w w' : World} {g C : Nat} (h : w.grownBy w' (some g)) (hC : C ≤ w.heap.size) (hg : C ≤ g) : Below C w w' := below_grown (Below.refl _ _) h hC (fun k hk => by injection hk with hk; omega)
set_option maxRecDepth 100000 in
set_option maxHeartbeats 1600000 in
theorem l01DrawBytes60 {w : World} {B g : Nat} (hS : Src w B g) :
    Calls Try.prog 62 #[.pointer (some ⟨g, 0, none⟩), .int .i64 60] w fun e w' => ∃ v : Value, e = .returned v ∧ (∃ L : List UInt8, LB w' w.heap.size 5 v L ∧ L.length ≤ 60) ∧ Src w' B g ∧ w.grownBy w' (some g) := by
  obtain ⟨i0, hi, hz, hsz, hby⟩ := info_parts info_byte
  have hgl := hS.lt
  have hgB := hS.1
  have S := Lib.hid (hS.below ((Below.refl _ w).alloc (Nat.le_refl _) (.cells #[] 5)))
  have G := Lib.hid (alloc_grown w (.cells #[] 5) (some g))
  have V := Lib.hid (LB.new (w := w) (B := w.heap.size) (e := 5) rfl (Nat.le_refl _))
  clear hS
  go_enter Try.func62, Try.ntmps62
  go_wp2_with fail
  refine (l01Next S.out 6 (by omega) (by omega)).mono ?_
  rintro e wx ⟨x, hx, rfl, hs, hg⟩
  replace G := Lib.hid (G.out.trans hg)
  replace V := Lib.hid (V.out.keptOwn hg hgl)
  replace S := Lib.hid hs
  clear hs hg
  go_wp2_with fail
  refine (l01Next S.out 41 (by omega) (by omega)).mono ?_
  rintro e wx ⟨y, hy, rfl, hs, hg⟩
  replace G := Lib.hid (G.out.trans hg)
  replace V := Lib.hid (V.out.keptOwn hg hgl)
  replace S := Lib.hid hs
  clear hs hg
  go_wp2_with fail
  refine (l01Next S.out (60 + 1) (by omega) (by omega)).mono ?_
  rintro e wx ⟨z, hz2, rfl, hs, hg⟩
  replace G := Lib.hid (G.out.trans hg)
  replace V := Lib.hid (V.out.keptOwn hg hgl)
  replace S := Lib.hid hs
  clear hs hg
  go_wp2_with fail
  refine (pickLit S.out [(x : Int), (y : Int), (z : Int)] 3 (by simp) (by simp)).mono ?_
  rintro e wy ⟨i, hii, rfl, hs, hg⟩
  replace G := Lib.hid (G.out.trans hg)
  replace V := Lib.hid (V.out.keptOwn hg hgl)
  replace S := Lib.hid hs
  clear hs hg
  obtain ⟨q, hq, hq2⟩ : ∃ q : Nat, q ≤ 60 ∧ [(x : Int), (y : Int), (z : Int)].getD i 0 = (q : Int) := by
    match i, hii with
    | 0, _ => exact ⟨x, by omega, rfl⟩
    | 1, _ => exact ⟨y, by omega, rfl⟩
    | 2, _ => exact ⟨z, by omega, rfl⟩
  rw [hq2]
  clear hq2 hii hx hy hz2
  go_wp2_with fail
  go_loopw [6, 5] (fun i v wr => ∃ (k : Nat) (L : List UInt8), k + L.length ≤ 60 ∧ i = .int .i64 k ∧ LB wr w.heap.size 5 v L ∧ Src wr B g ∧ w.grownBy wr (some g))
    (fun i _ _ => (intOf i).toNat)
  case atStart => exact ⟨q, [], by simpa using hq, rfl, V.out, S.out, G.out⟩
  case round =>
    clear V S G
    obtain ⟨k, L, hk, rfl, hv, hs, hg⟩ := hrel
    by_cases h0 : 0 < k
    · have hki : (0 : Int) < (k : Int) := by omega
      have hL : L.length < 1000000 := by omega
      have hsz2 := hg.size
      have Hv := Lib.hid hv; clear hv; have Hs := Lib.hid hs; clear hs; have Hg := Lib.hid hg; clear hg
      go_wp2_with fail
      refine (l01DrawByte Hs.out).mono ?_
      rintro e wx ⟨c, rfl, hs, hg2⟩
      replace Hv := Lib.hid (Hv.out.keptOwn hg2 hgl)
      replace Hg := Lib.hid (Hg.out.trans hg2)
      replace Hs := Lib.hid hs
      have hsz3 := Nat.le_trans hsz2 hg2.size
      clear hs hg2 hsz2
      obtain ⟨⟨gv, cv, rfl⟩, _⟩ := id Hv.out
      have W1 := (Below.refl wx.heap.size wx).alloc (Nat.le_refl _) (.cells #[.int .u8 (c.toNat : Int)] 5)
      have VA := Lib.hid (Hv.out.alloc (.cells #[.int .u8 (c.toNat : Int)] 5))
      have hgv := (Hv.out.lt gv rfl).1
      have hB0 : w.heap.size ≤ (wx.alloc (.cells #[.int .u8 (c.toNat : Int)] 5)).heap.size := by simp; omega
      have SA := Lib.hid (Hs.out.below W1)
      have WA := Lib.hid (W1.mono hsz3)
      clear W1
      go_wp2_with (at_builtin; refine wpList_appendB rfl _ _ _ rfl w.heap.size 5 i0 Try.underlying22 hi hz hsz hby _ _ rfl VA.out _ 1 _ [c] rfl rfl (one_cellB rfl) (by omega) (by omega) hB0 ?_; intro vy wy hl hg; have LY := Lib.hid hl; have BB := Lib.hid (below_grown WA.out hg hB0 (fun q hq => (VA.out.lt q hq).1)); have SY := Lib.hid (SA.out.grown hg (fun e => by have e : g = gv := Option.some.inj e; omega) (fun q hq => by have := (VA.out.lt q hq).1; omega)); clear hl hg)
      go_roundw
      case rel => exact ⟨k - 1, L ++ [c], by simp; omega, by rw [show ((k - 1 : Nat) : Int) = (k : Int) - 1 by omega], LY.out, SY.out, Gr.below Hg.out BB.out (Nat.le_refl _)⟩
      case measure => simp [intOf]; omega
    · obtain rfl : k = 0 := by omega
      have hki : ¬ (0 : Int) < ((0 : Nat) : Int) := by omega
      have Hv := Lib.hid hv; clear hv; have Hs := Lib.hid hs; clear hs; have Hg := Lib.hid hg; clear hg
      go_wp2_with fail
      go_ret
      exact ⟨_, rfl, ⟨L, Hv.out, by omega⟩, Hs.out, Hg.out⟩
set_option maxRecDepth 100000 in
set_option maxHeartbeats 1600000 in
theorem l01DrawBytes70 {w : World} {B g : Nat} (hS : Src w B g) :
    Calls Try.prog 62 #[.pointer (some ⟨g, 0, none⟩), .int .i64 70] w fun e w' => ∃ v : Value, e = .returned v ∧ (∃ L : List UInt8, LB w' w.heap.size 5 v L ∧ L.length ≤ 70) ∧ Src w' B g ∧ w.grownBy w' (some g) := by
  obtain ⟨i0, hi, hz, hsz, hby⟩ := info_parts info_byte
  have hgl := hS.lt
  have hgB := hS.1
  have S := Lib.hid (hS.below ((Below.refl _ w).alloc (Nat.le_refl _) (.cells #[] 5)))
  have G := Lib.hid (alloc_grown w (.cells #[] 5) (some g))
  have V := Lib.hid (LB.new (w := w) (B := w.heap.size) (e := 5) rfl (Nat.le_refl _))
  clear hS
  go_enter Try.func62, Try.ntmps62
  go_wp2_with fail
  refine (l01Next S.out 6 (by omega) (by omega)).mono ?_
  rintro e wx ⟨x, hx, rfl, hs, hg⟩
  replace G := Lib.hid (G.out.trans hg)
  replace V := Lib.hid (V.out.keptOwn hg hgl)
  replace S := Lib.hid hs
  clear hs hg
  go_wp2_with fail
  refine (l01Next S.out 41 (by omega) (by omega)).mono ?_
  rintro e wx ⟨y, hy, rfl, hs, hg⟩
  replace G := Lib.hid (G.out.trans hg)
  replace V := Lib.hid (V.out.keptOwn hg hgl)
  replace S := Lib.hid hs
  clear hs hg
  go_wp2_with fail
  refine (l01Next S.out (70 + 1) (by omega) (by omega)).mono ?_
  rintro e wx ⟨z, hz2, rfl, hs, hg⟩
  replace G := Lib.hid (G.out.trans hg)
  replace V := Lib.hid (V.out.keptOwn hg hgl)
  replace S := Lib.hid hs
  clear hs hg
  go_wp2_with fail
  refine (pickLit S.out [(x : Int), (y : Int), (z : Int)] 3 (by simp) (by simp)).mono ?_
  rintro e wy ⟨i, hii, rfl, hs, hg⟩
  replace G := Lib.hid (G.out.trans hg)
  replace V := Lib.hid (V.out.keptOwn hg hgl)
  replace S := Lib.hid hs
  clear hs hg
  obtain ⟨q, hq, hq2⟩ : ∃ q : Nat, q ≤ 70 ∧ [(x : Int), (y : Int), (z : Int)].getD i 0 = (q : Int) := by
    match i, hii with
    | 0, _ => exact ⟨x, by omega, rfl⟩
    | 1, _ => exact ⟨y, by omega, rfl⟩
    | 2, _ => exact ⟨z, by omega, rfl⟩
  rw [hq2]
  clear hq2 hii hx hy hz2
  go_wp2_with fail
  go_loopw [6, 5] (fun i v wr => ∃ (k : Nat) (L : List UInt8), k + L.length ≤ 70 ∧ i = .int .i64 k ∧ LB wr w.heap.size 5 v L ∧ Src wr B g ∧ w.grownBy wr (some g))
    (fun i _ _ => (intOf i).toNat)
  case atStart => exact ⟨q, [], by simpa using hq, rfl, V.out, S.out, G.out⟩
  case round =>
    clear V S G
    obtain ⟨k, L, hk, rfl, hv, hs, hg⟩ := hrel
    by_cases h0 : 0 < k
    · have hki : (0 : Int) < (k : Int) := by omega
      have hL : L.length < 1000000 := by omega
      have hsz2 := hg.size
      have Hv := Lib.hid hv; clear hv; have Hs := Lib.hid hs; clear hs; have Hg := Lib.hid hg; clear hg
      go_wp2_with fail
      refine (l01DrawByte Hs.out).mono ?_
      rintro e wx ⟨c, rfl, hs, hg2⟩
      replace Hv := Lib.hid (Hv.out.keptOwn hg2 hgl)
      replace Hg := Lib.hid (Hg.out.trans hg2)
      replace Hs := Lib.hid hs
      have hsz3 := Nat.le_trans hsz2 hg2.size
      clear hs hg2 hsz2
      obtain ⟨⟨gv, cv, rfl⟩, _⟩ := id Hv.out
      have W1 := (Below.refl wx.heap.size wx).alloc (Nat.le_refl _) (.cells #[.int .u8 (c.toNat : Int)] 5)
      have VA := Lib.hid (Hv.out.alloc (.cells #[.int .u8 (c.toNat : Int)] 5))
      have hgv := (Hv.out.lt gv rfl).1
      have hB0 : w.heap.size ≤ (wx.alloc (.cells #[.int .u8 (c.toNat : Int)] 5)).heap.size := by simp; omega
      have SA := Lib.hid (Hs.out.below W1)
      have WA := Lib.hid (W1.mono hsz3)
      clear W1
      go_wp2_with (at_builtin; refine wpList_appendB rfl _ _ _ rfl w.heap.size 5 i0 Try.underlying22 hi hz hsz hby _ _ rfl VA.out _ 1 _ [c] rfl rfl (one_cellB rfl) (by omega) (by omega) hB0 ?_; intro vy wy hl hg; have LY := Lib.hid hl; have BB := Lib.hid (below_grown WA.out hg hB0 (fun q hq => (VA.out.lt q hq).1)); have SY := Lib.hid (SA.out.grown hg (fun e => by have e : g = gv := Option.some.inj e; omega) (fun q hq => by have := (VA.out.lt q hq).1; omega)); clear hl hg)
      go_roundw
      case rel => exact ⟨k - 1, L ++ [c], by simp; omega, by rw [show ((k - 1 : Nat) : Int) = (k : Int) - 1 by omega], LY.out, SY.out, Gr.below Hg.out BB.out (Nat.le_refl _)⟩
      case measure => simp [intOf]; omega
    · obtain rfl : k = 0 := by omega
      have hki : ¬ (0 : Int) < ((0 : Nat) : Int) := by omega
      have Hv := Lib.hid hv; clear hv; have Hs := Lib.hid hs; clear hs; have Hg := Lib.hid hg; clear hg
      go_wp2_with fail
      go_ret
      exact ⟨_, rfl, ⟨L, Hv.out, by omega⟩, Hs.out, Hg.out⟩
end Go.Proofs.Ytphfiekhpicpgaa
