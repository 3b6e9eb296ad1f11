/- Contracts: the drawing of boxes. No condition. -/
import Derived.Test.YtphfiekhpicpgaaRows
import Derived.Test.YtphfiekhpicpgaaDrawF
import Derived.Test.YtphfiekhpicpgaaRot
import Derived.Test.YtphfiekhpicpgaaPowBox
import Derived.Test.YtphfiekhpicpgaaPowOf
set_option linter.unusedVariables false
namespace Go.Proofs.Ytphfiekhpicpgaa
open Go.RowKit Plain
theorem Gr.trans {g : Nat} {w w' w2 : World} (h : Gr g w w') (h2 : w'.grownBy w2 (some g)) : Gr g w w2 := World.grownBy.trans h h2
theorem Gr.below {g C : Nat} {w w' w2 : World} (h : Gr g w w') (hb : Below C w' w2) (hC : w.heap.size ≤ C) : Gr g w w2 :=
  ⟨hb.os.trans h.os, hb.tape.trans h.tape, hb.output.trans h.output, Nat.le_trans h.size hb.size, fun k hk hne => (hb.block k (by omega)).trans (h.block k hk hne)⟩
theorem Src.under {w w' : World} {B g C : Nat} (h : Src w B g) (hb : Below C w w') (hC : g < C) : Src w' B g :=
  h.keep (hb.mono (Nat.le_of_lt (Nat.lt_of_le_of_lt h.1 hC))) (hb.block g hC)
def cst (l : Array Int) : Nat → Int := fun i => l.getD i 0
theorem Lst.cellsI {w : World} {q m : Nat} {f : Nat → Int} (h : Lst w q m f) : CellsI w q m f := h
theorem wrapU8_small {y : Nat} (h : y < 256) : IntKind.u8.wrap (y : Int) = (y : Int) := by rw [IntKind.wrap_u8]; omega
theorem u8_arg {y : Nat} (h : y < 256) : Value.int .u8 (y : Int) = .int .u8 ((UInt8.ofNat y).toNat : Int) := by rw [toNat_ofNat_lt h]
theorem swap_bytes (f : Nat → UInt8) (x y : Nat) (u v : UInt8) : ∃ f', byteRow 256 (upd (upd f x u) y v) = byteRow 256 f' := ⟨_, rfl⟩
set_option maxRecDepth 100000 in
set_option maxHeartbeats 800000 in
theorem l02Shuffle {w : World} {B g : Nat} (hS : Src w B g) :
    Calls Try.prog 96 #[.pointer (some ⟨g, 0, none⟩)] w fun e w' => ∃ b, e = .returned (.agg (byteRow 256 b)) ∧ Src w' B g ∧ w.grownBy w' (some g) := by
  have hgl := hS.lt
  have k0 := Lib.hid ((Blk.newAt (t := 27) (cs := Try.zeroCells27) (w := w) (n := w.heap.size) rfl).eq_ zeroBox)
  have hG := Lib.hid (Gr.below (Gr.refl (g := g) w) ((Below.refl w.heap.size w).alloc (Nat.le_refl _) (.cells Try.zeroCells27 27)) (Nat.le_refl _))
  have hS := Lib.hid (hS.below ((Below.refl w.heap.size w).alloc (Nat.le_refl _) (.cells Try.zeroCells27 27)))
  have ne0 : some w.heap.size ≠ some g := fun e => by injection e; omega
  go_enter Try.func96, Try.ntmps96
  go_wp2_with fail
  refine (l02Same _).mono ?_
  rintro e wx ⟨rfl, hb⟩
  have k0 := carryB k0 hb
  have hG := Lib.hid (Gr.below hG.out hb hG.out.size)
  have hS := Lib.hid (hS.out.below hb)
  clear hb
  obtain ⟨ws, rfl⟩ : ∃ ws : World, ws = wx := ⟨_, rfl⟩
  have ne1 : some ws.heap.size ≠ some g := fun e => by have := hS.out.lt; injection e; omega
  have hws := hG.out.size
  have hgs := hS.out.lt
  have h0s := k0.out.lt
  go_wp2_with (refine wpList_storeNew rfl _ _ _ rfl _ rfl rfl zeroBox size27 (byteRow_size _ _) (byteRow_size _ _) (byteRow_all _ _) ?_; intro wy k1 hb; have k0 := carryB k0 hb; have hG := Lib.hid (Gr.below hG.out hb hG.out.size); have hS := Lib.hid (hS.out.below hb); have k1 := Lib.hid k1; clear hb)
  try simp only [Act.put]
  go_loopw [4] (fun i wr => ∃ (x : Nat) (f : Nat → UInt8), x ≤ 255 ∧ i = .int .i64 (x : Int) ∧ Blk wr w.heap.size 27 (byteRow 256 (fun _ => 0)) ∧ Blk wr ws.heap.size 27 (byteRow 256 f) ∧ Src wr B g ∧ Gr g w wr)
    (fun i _ => (intOf i).toNat)
  case atStart => exact ⟨255, _, by omega, rfl, k0.out, k1.out, hS.out, hG.out⟩
  case round =>
    clear k0 k1 hS hG
    obtain ⟨x, f, hx, rfl, k0, k1, hS, hG⟩ := hrel
    have k0 := Lib.hid k0
    have k1 := Lib.hid k1
    have hS := Lib.hid hS
    have hG := Lib.hid hG
    by_cases hlt : 0 < x
    · have hxi : (0 : Int) < (x : Int) := by omega
      have hxi2 : (x : Int) < 256 := by omega
      go_wp2_with fail
      refine (l01Next hS.out (x + 1) (by omega) (by omega)).mono ?_
      rintro e wx ⟨y, hy, rfl, hs, hg⟩
      have k0 := Lib.hid (k0.out.grown hg ne0)
      have k1 := Lib.hid (k1.out.grown hg ne1)
      have hG := Lib.hid (Gr.trans hG.out hg)
      have hS := Lib.hid hs
      clear hs hg
      have hyi : (y : Int) < 256 := by omega
      have c1 := k1.out.byteAt (i := x) (by omega)
      have c2 := k1.out.byteAt (i := y) (by omega)
      have f1 := k1.out.frozen x
      have f2 := k1.out.frozen y
      have k2 := Lib.hid (k1.out.bytePut x (f y))
      obtain ⟨w2, hw2⟩ : ∃ w2, wx.setCell ⟨ws.heap.size, x, none⟩ (.int .u8 ((f y).toNat : Int)) = w2 := ⟨_, rfl⟩
      rw [hw2] at k2
      have f3 := k2.out.frozen y
      have c3 := k2.out.byteAt (i := y) (by omega)
      go_upto_region 8 with fail
      go_wp2
      go_roundw
      case rel =>
        have hb1 := (Below.refl ws.heap.size wx).setCell (p := ⟨ws.heap.size, x, none⟩) (Nat.le_refl _) (.int .u8 ((f y).toNat : Int))
        rw [hw2] at hb1
        have hb2 := hb1.setCell (p := ⟨ws.heap.size, y, none⟩) (Nat.le_refl _) (.int .u8 ((f x).toNat : Int))
        exact ⟨x - 1, _, by omega, by go_num, k0.out.below hb2 (by omega), k2.out.bytePut y (f x), hS.out.under hb2 (by omega), Gr.below hG.out hb2 (by omega)⟩
      case measure => simp [intOf]; omega
    · obtain rfl : x = 0 := by omega
      go_wp2_with (first | (refine wpList_loadR rfl _ _ rfl _ rfl k1.out Try.underlying27 rfl size27 (byteRow_size _ _) ?_) | (refine wpList_storeR rfl _ _ _ rfl _ _ rfl rfl k0.out size27 (byteRow_size _ _) (byteRow_size _ _) (byteRow_all _ _) ?_))
      refine bodyPost_ret (results_cellB rfl _ _ _ rfl (k0.out.setRow _) Try.underlying27 rfl size27 (byteRow_size _ _)) rfl ⟨_, rfl, hS.out.under (below_row (Below.refl w.heap.size _) (Nat.le_refl _) _) hgl, Gr.below hG.out (below_row (Below.refl w.heap.size _) (Nat.le_refl _) _) (Nat.le_refl _)⟩
set_option maxRecDepth 100000 in
set_option maxHeartbeats 800000 in
theorem l02Draw {w : World} {B g : Nat} (hS : Src w B g) :
    Calls Try.prog 92 #[.pointer (some ⟨g, 0, none⟩)] w fun e w' => ∃ b, e = .returned (.agg (byteRow 256 b)) ∧ Src w' B g ∧ w.grownBy w' (some g) := by
  have hgl := hS.lt
  have k0 := Lib.hid ((Blk.newAt (t := 27) (cs := Try.zeroCells27) (w := w) (n := w.heap.size) rfl).eq_ zeroBox)
  have hG := Lib.hid (Gr.below (Gr.refl (g := g) w) ((Below.refl w.heap.size w).alloc (Nat.le_refl _) (.cells Try.zeroCells27 27)) (Nat.le_refl _))
  have hS := Lib.hid (hS.below ((Below.refl w.heap.size w).alloc (Nat.le_refl _) (.cells Try.zeroCells27 27)))
  have ne0 : some w.heap.size ≠ some g := fun e => by injection e; omega
  go_enter Try.func92, Try.ntmps92
  go_wp2_with fail
  refine (l01Next hS.out 6 (by omega) (by omega)).mono ?_
  rintro e wx ⟨c, hc, rfl, hs, hg⟩
  have k0 := Lib.hid (k0.out.grown hg ne0)
  have hG := Lib.hid (Gr.trans hG.out hg)
  have hS := Lib.hid hs
  clear hs hg
  rcases (by omega : c = 0 ∨ c = 1 ∨ c = 2 ∨ c = 3 ∨ (4 ≤ c)) with rfl | rfl | rfl | rfl | hc4
  · go_wp2_with fail
    refine (l01DrawField hS.out).mono ?_
    rintro e wx ⟨z, loz, hiz, rfl, hs, hg⟩
    obtain ⟨mz, rfl⟩ : ∃ m : Nat, z = m := ⟨z.toNat, by omega⟩
    have k0 := Lib.hid (k0.out.grown hg ne0)
    have hG := Lib.hid (Gr.trans hG.out hg)
    have hS := Lib.hid hs
    clear hs hg
    go_wp2_with fail
    refine (l02Power mz 254 (by omega) (by omega) (by decide) _).mono ?_
    rintro e wx ⟨rfl, hb⟩
    have k0 := carryB k0 hb
    have hG := Lib.hid (Gr.below hG.out hb hG.out.size)
    have hS := Lib.hid (hS.out.below hb)
    clear hb
    go_wp2_with fail
    obtain ⟨ws, rfl⟩ : ∃ ws : World, ws = wx := ⟨_, rfl⟩
    have hb := (Below.refl ws.heap.size ws).alloc (Nat.le_refl _) (.cells #[.int .i64 0, .int .i64 1, .int .i64 4] 2)
    have kl : Lst (ws.alloc (.cells #[.int .i64 0, .int .i64 1, .int .i64 4] 2)) ws.heap.size 3 (cst #[0, 1, 4]) := ⟨(Blk.new ws _ _).lt, fun i hi => ((Blk.new ws 2 _).cell i).trans (by match i, hi with | 0, _ | 1, _ | 2, _ => rfl)⟩
    have nkl : ws.heap.size ≠ g := by have := hS.out.lt; omega
    have kl := Lib.hid kl
    have k0 := carryB k0 hb
    have hG := Lib.hid (Gr.below hG.out hb hG.out.size)
    have hS := Lib.hid (hS.out.below hb)
    clear hb
    refine (l01Next hS.out 256 (by omega) (by omega)).mono ?_
    rintro e wx ⟨y, hy, rfl, hs, hg⟩
    have k0 := Lib.hid (k0.out.grown hg ne0)
    have kl := Lib.hid (kl.out.grown hg (fun e => nkl (by injection e)))
    have hG := Lib.hid (Gr.trans hG.out hg)
    have hS := Lib.hid hs
    clear hs hg
    have hwy := wrapU8_small hy
    have R := l02Rotations (cap := 3) (UInt8.ofNat y) wx kl.out.cellsI (by omega) (fun i hi => by match i, hi with | 0, _ | 1, _ | 2, _ => exact ⟨by decide, by decide⟩)
    rw [← u8_arg hy] at R
    have R := Lib.hid R
    go_wp2_with fail
    refine (R.out).mono ?_
    rintro e wx ⟨rfl, hb⟩
    have k0 := carryB k0 hb
    have hG := Lib.hid (Gr.below hG.out hb hG.out.size)
    have hS := Lib.hid (hS.out.below hb)
    clear hb
    clear R
    go_wp2_with fail
    refine (l02Then _ _ _).mono ?_
    rintro e wx ⟨rfl, hb⟩
    have k0 := carryB k0 hb
    have hG := Lib.hid (Gr.below hG.out hb hG.out.size)
    have hS := Lib.hid (hS.out.below hb)
    clear hb
    go_wp2_with (refine wpList_storeR rfl _ _ _ rfl _ _ rfl rfl k0.out size27 (byteRow_size _ _) (byteRow_size _ _) (byteRow_all _ _) ?_)
    refine bodyPost_ret (results_cellB rfl _ _ _ rfl (k0.out.setRow _) Try.underlying27 rfl size27 (byteRow_size _ _)) rfl ⟨_, rfl, hS.out.under (below_row (Below.refl w.heap.size _) (Nat.le_refl _) _) hgl, Gr.below hG.out (below_row (Below.refl w.heap.size _) (Nat.le_refl _) _) (Nat.le_refl _)⟩
  · go_wp2_with fail
    refine (l01DrawField hS.out).mono ?_
    rintro e wx ⟨z, loz, hiz, rfl, hs, hg⟩
    obtain ⟨mz, rfl⟩ : ∃ m : Nat, z = m := ⟨z.toNat, by omega⟩
    have k0 := Lib.hid (k0.out.grown hg ne0)
    have hG := Lib.hid (Gr.trans hG.out hg)
    have hS := Lib.hid hs
    clear hs hg
    go_wp2_with fail
    obtain ⟨ws, rfl⟩ : ∃ ws : World, ws = wx := ⟨_, rfl⟩
    have hb := (Below.refl ws.heap.size ws).alloc (Nat.le_refl _) (.cells #[.int .i64 1, .int .i64 2, .int .i64 7, .int .i64 11, .int .i64 13, .int .i64 127, .int .i64 254] 2)
    have kl : Lst (ws.alloc (.cells #[.int .i64 1, .int .i64 2, .int .i64 7, .int .i64 11, .int .i64 13, .int .i64 127, .int .i64 254] 2)) ws.heap.size 7 (cst #[1, 2, 7, 11, 13, 127, 254]) := ⟨(Blk.new ws _ _).lt, fun i hi => ((Blk.new ws 2 _).cell i).trans (by match i, hi with | 0, _ | 1, _ | 2, _ | 3, _ | 4, _ | 5, _ | 6, _ => rfl)⟩
    have nkl : ws.heap.size ≠ g := by have := hS.out.lt; omega
    have kl := Lib.hid kl
    have k0 := carryB k0 hb
    have hG := Lib.hid (Gr.below hG.out hb hG.out.size)
    have hS := Lib.hid (hS.out.below hb)
    clear hb
    refine (l01Pick (cap := 7) hS.out kl.out nkl (by omega) (by omega)).mono ?_
    rintro e wx ⟨i, hi, rfl, hs, hg⟩
    have k0 := Lib.hid (k0.out.grown hg ne0)
    have hG := Lib.hid (Gr.trans hG.out hg)
    have hS := Lib.hid hs
    clear hs hg
    obtain ⟨n, hn, hn2⟩ : ∃ n : Nat, cst #[1, 2, 7, 11, 13, 127, 254] i = (n : Int) ∧ n < 2 ^ 32 := by match i, hi with | 0, _ | 1, _ | 2, _ | 3, _ | 4, _ | 5, _ | 6, _ => exact ⟨_, rfl, by decide⟩
    rw [hn]
    go_wp2_with fail
    refine (l02Power mz n (by omega) (by omega) hn2 _).mono ?_
    rintro e wx ⟨rfl, hb⟩
    have k0 := carryB k0 hb
    have hG := Lib.hid (Gr.below hG.out hb hG.out.size)
    have hS := Lib.hid (hS.out.below hb)
    clear hb
    go_wp2_with (refine wpList_storeR rfl _ _ _ rfl _ _ rfl rfl k0.out size27 (byteRow_size _ _) (byteRow_size _ _) (byteRow_all _ _) ?_)
    refine bodyPost_ret (results_cellB rfl _ _ _ rfl (k0.out.setRow _) Try.underlying27 rfl size27 (byteRow_size _ _)) rfl ⟨_, rfl, hS.out.under (below_row (Below.refl w.heap.size _) (Nat.le_refl _) _) hgl, Gr.below hG.out (below_row (Below.refl w.heap.size _) (Nat.le_refl _) _) (Nat.le_refl _)⟩
  · go_wp2_with fail
    obtain ⟨ws, rfl⟩ : ∃ ws : World, ws = wx := ⟨_, rfl⟩
    have hb := (Below.refl ws.heap.size ws).alloc (Nat.le_refl _) (.cells #[.int .i64 0, .int .i64 2, .int .i64 5] 2)
    have kl : Lst (ws.alloc (.cells #[.int .i64 0, .int .i64 2, .int .i64 5] 2)) ws.heap.size 3 (cst #[0, 2, 5]) := ⟨(Blk.new ws _ _).lt, fun i hi => ((Blk.new ws 2 _).cell i).trans (by match i, hi with | 0, _ | 1, _ | 2, _ => rfl)⟩
    have nkl : ws.heap.size ≠ g := by have := hS.out.lt; omega
    have kl := Lib.hid kl
    have k0 := carryB k0 hb
    have hG := Lib.hid (Gr.below hG.out hb hG.out.size)
    have hS := Lib.hid (hS.out.below hb)
    clear hb
    refine (l01Next hS.out 256 (by omega) (by omega)).mono ?_
    rintro e wx ⟨y, hy, rfl, hs, hg⟩
    have k0 := Lib.hid (k0.out.grown hg ne0)
    have kl := Lib.hid (kl.out.grown hg (fun e => nkl (by injection e)))
    have hG := Lib.hid (Gr.trans hG.out hg)
    have hS := Lib.hid hs
    clear hs hg
    have hwy := wrapU8_small hy
    have R := l02Rotations (cap := 3) (UInt8.ofNat y) wx kl.out.cellsI (by omega) (fun i hi => by match i, hi with | 0, _ | 1, _ | 2, _ => exact ⟨by decide, by decide⟩)
    rw [← u8_arg hy] at R
    have R := Lib.hid R
    go_wp2_with fail
    refine (R.out).mono ?_
    rintro e wx ⟨rfl, hb⟩
    have k0 := carryB k0 hb
    have hG := Lib.hid (Gr.below hG.out hb hG.out.size)
    have hS := Lib.hid (hS.out.below hb)
    clear hb
    clear R
    go_wp2_with (refine wpList_storeR rfl _ _ _ rfl _ _ rfl rfl k0.out size27 (byteRow_size _ _) (byteRow_size _ _) (byteRow_all _ _) ?_)
    refine bodyPost_ret (results_cellB rfl _ _ _ rfl (k0.out.setRow _) Try.underlying27 rfl size27 (byteRow_size _ _)) rfl ⟨_, rfl, hS.out.under (below_row (Below.refl w.heap.size _) (Nat.le_refl _) _) hgl, Gr.below hG.out (below_row (Below.refl w.heap.size _) (Nat.le_refl _) _) (Nat.le_refl _)⟩
  · go_wp2_with fail
    refine (l02Same _).mono ?_
    rintro e wx ⟨rfl, hb⟩
    have k0 := carryB k0 hb
    have hG := Lib.hid (Gr.below hG.out hb hG.out.size)
    have hS := Lib.hid (hS.out.below hb)
    clear hb
    obtain ⟨ws, rfl⟩ : ∃ ws : World, ws = wx := ⟨_, rfl⟩
    have ne1 : some ws.heap.size ≠ some g := fun e => by have := hS.out.lt; injection e; omega
    have hws := hG.out.size
    have hgs := hS.out.lt
    have h0s := k0.out.lt
    go_wp2_with (refine wpList_storeNew rfl _ _ _ rfl _ rfl rfl zeroBox size27 (byteRow_size _ _) (byteRow_size _ _) (byteRow_all _ _) ?_; intro wy k1 hb; have k0 := carryB k0 hb; have hG := Lib.hid (Gr.below hG.out hb hG.out.size); have hS := Lib.hid (hS.out.below hb); have k1 := Lib.hid k1; clear hb)
    refine (l01Next hS.out 256 (by omega) (by omega)).mono ?_
    rintro e wx ⟨x, hx, rfl, hs, hg⟩
    have k0 := Lib.hid (k0.out.grown hg ne0)
    have k1 := Lib.hid (k1.out.grown hg ne1)
    have hG := Lib.hid (Gr.trans hG.out hg)
    have hS := Lib.hid hs
    clear hs hg
    go_wp2_with fail
    refine (l01Next hS.out 256 (by omega) (by omega)).mono ?_
    rintro e wx ⟨y, hy, rfl, hs, hg⟩
    have k0 := Lib.hid (k0.out.grown hg ne0)
    have k1 := Lib.hid (k1.out.grown hg ne1)
    have hG := Lib.hid (Gr.trans hG.out hg)
    have hS := Lib.hid hs
    clear hs hg
    obtain ⟨f, hf⟩ : ∃ f, unitB = f := ⟨_, rfl⟩
    rw [hf] at k1
    have hxi : (x : Int) < 256 := by omega
    have hyi : (y : Int) < 256 := by omega
    have c1 := k1.out.byteAt (i := x) (by omega)
    have c2 := k1.out.byteAt (i := y) (by omega)
    have f1 := k1.out.frozen x
    have f2 := k1.out.frozen y
    have k2 := Lib.hid (k1.out.bytePut x (f y))
    obtain ⟨w2, hw2⟩ : ∃ w2, wx.setCell ⟨ws.heap.size, x, none⟩ (.int .u8 ((f y).toNat : Int)) = w2 := ⟨_, rfl⟩
    rw [hw2] at k2
    have f3 := k2.out.frozen y
    have c3 := k2.out.byteAt (i := y) (by omega)
    go_upto_region 13 with fail
    have hb1 := (Below.refl ws.heap.size wx).setCell (p := ⟨ws.heap.size, x, none⟩) (Nat.le_refl _) (.int .u8 ((f y).toNat : Int))
    rw [hw2] at hb1
    have hb2 := hb1.setCell (p := ⟨ws.heap.size, y, none⟩) (Nat.le_refl _) (.int .u8 ((f x).toNat : Int))
    have k3 := Lib.hid (k2.out.bytePut y (f x))
    have k0 := Lib.hid (k0.out.below hb2 (by omega))
    have hG := Lib.hid (Gr.below hG.out hb2 (by omega))
    have hS := Lib.hid (hS.out.under hb2 (by omega))
    clear hb1 hb2 k1
    go_wp2_with (first | (refine wpList_loadR rfl _ _ rfl _ rfl k3.out Try.underlying27 rfl size27 (byteRow_size _ _) ?_) | (refine wpList_storeR rfl _ _ _ rfl _ _ rfl rfl k0.out size27 (byteRow_size _ _) (byteRow_size _ _) (byteRow_all _ _) ?_))
    refine bodyPost_ret (results_cellB rfl _ _ _ rfl (k0.out.setRow _) Try.underlying27 rfl size27 (byteRow_size _ _)) rfl ⟨_, rfl, hS.out.under (below_row (Below.refl w.heap.size _) (Nat.le_refl _) _) hgl, Gr.below hG.out (below_row (Below.refl w.heap.size _) (Nat.le_refl _) _) (Nat.le_refl _)⟩
  · have g0 : ¬ (c : Int) = 0 := by omega
    have g1 : ¬ (c : Int) = 1 := by omega
    have g2 : ¬ (c : Int) = 2 := by omega
    have g3 : ¬ (c : Int) = 3 := by omega
    go_wp2_with fail
    refine (l02Shuffle hS.out).mono ?_
    rintro e wx ⟨bs, rfl, hs, hg⟩
    have k0 := Lib.hid (k0.out.grown hg ne0)
    have hG := Lib.hid (Gr.trans hG.out hg)
    have hS := Lib.hid hs
    clear hs hg
    go_wp2_with (refine wpList_storeR rfl _ _ _ rfl _ _ rfl rfl k0.out size27 (byteRow_size _ _) (byteRow_size _ _) (byteRow_all _ _) ?_)
    refine bodyPost_ret (results_cellB rfl _ _ _ rfl (k0.out.setRow _) Try.underlying27 rfl size27 (byteRow_size _ _)) rfl ⟨_, rfl, hS.out.under (below_row (Below.refl w.heap.size _) (Nat.le_refl _) _) hgl, Gr.below hG.out (below_row (Below.refl w.heap.size _) (Nat.le_refl _) _) (Nat.le_refl _)⟩
set_option maxRecDepth 100000 in
set_option maxHeartbeats 800000 in
theorem l02Spoil {w : World} {B g : Nat} (hS : Src w B g) :
    Calls Try.prog 75 #[.pointer (some ⟨g, 0, none⟩)] w fun e w' => ∃ b, e = .returned (.agg (byteRow 256 b)) ∧ Src w' B g ∧ w.grownBy w' (some g) := by
  have hgl := hS.lt
  have k0 := Lib.hid ((Blk.newAt (t := 27) (cs := Try.zeroCells27) (w := w) (n := w.heap.size) rfl).eq_ zeroBox)
  have hG := Lib.hid (Gr.below (Gr.refl (g := g) w) ((Below.refl w.heap.size w).alloc (Nat.le_refl _) (.cells Try.zeroCells27 27)) (Nat.le_refl _))
  have hS := Lib.hid (hS.below ((Below.refl w.heap.size w).alloc (Nat.le_refl _) (.cells Try.zeroCells27 27)))
  have ne0 : some w.heap.size ≠ some g := fun e => by injection e; omega
  go_enter Try.func75, Try.ntmps75
  go_wp2_with fail
  refine (l02Draw hS.out).mono ?_
  rintro e wx ⟨f, rfl, hs, hg⟩
  have k0 := Lib.hid (k0.out.grown hg ne0)
  have hG := Lib.hid (Gr.trans hG.out hg)
  have hS := Lib.hid hs
  clear hs hg
  obtain ⟨ws, rfl⟩ : ∃ ws : World, ws = wx := ⟨_, rfl⟩
  have ne1 : some ws.heap.size ≠ some g := fun e => by have := hS.out.lt; injection e; omega
  have hws := hG.out.size
  have hgs := hS.out.lt
  have h0s := k0.out.lt
  go_wp2_with (refine wpList_storeNew rfl _ _ _ rfl _ rfl rfl zeroBox size27 (byteRow_size _ _) (byteRow_size _ _) (byteRow_all _ _) ?_; intro wy k1 hb; have k0 := carryB k0 hb; have hG := Lib.hid (Gr.below hG.out hb hG.out.size); have hS := Lib.hid (hS.out.below hb); have k1 := Lib.hid k1; clear hb)
  refine (l01Next hS.out 8 (by omega) (by omega)).mono ?_
  rintro e wx ⟨c, hc, rfl, hs, hg⟩
  have k0 := Lib.hid (k0.out.grown hg ne0)
  have k1 := Lib.hid (k1.out.grown hg ne1)
  have hG := Lib.hid (Gr.trans hG.out hg)
  have hS := Lib.hid hs
  clear hs hg
  rcases (by omega : c = 0 ∨ c = 1 ∨ (2 ≤ c)) with rfl | rfl | hc2
  · go_wp2_with fail
    refine (l01Next hS.out 256 (by omega) (by omega)).mono ?_
    rintro e wx ⟨x, hx, rfl, hs, hg⟩
    have k0 := Lib.hid (k0.out.grown hg ne0)
    have k1 := Lib.hid (k1.out.grown hg ne1)
    have hG := Lib.hid (Gr.trans hG.out hg)
    have hS := Lib.hid hs
    clear hs hg
    go_wp2_with fail
    refine (l01Next hS.out 256 (by omega) (by omega)).mono ?_
    rintro e wx ⟨y, hy, rfl, hs, hg⟩
    have k0 := Lib.hid (k0.out.grown hg ne0)
    have k1 := Lib.hid (k1.out.grown hg ne1)
    have hG := Lib.hid (Gr.trans hG.out hg)
    have hS := Lib.hid hs
    clear hs hg
    have hwy := wrapU8_small hy
    have hxi : (x : Int) < 256 := by omega
    have f1 := k1.out.frozen x
    have c1 := k1.out.byteAt (i := x) (by omega)
    have hb2 := (Below.refl ws.heap.size wx).setCell (p := ⟨ws.heap.size, x, none⟩) (Nat.le_refl _) (.int .u8 (y : Int))
    have k3 := Lib.hid (k1.out.bytePutN x hy)
    obtain ⟨w2, hw2⟩ : ∃ w2, wx.setCell ⟨ws.heap.size, x, none⟩ (.int .u8 (y : Int)) = w2 := ⟨_, rfl⟩
    go_upto_region 7 with fail
    rw [hw2] at hb2 k3
    have k0 := Lib.hid (k0.out.below hb2 (by omega))
    have hG := Lib.hid (Gr.below hG.out hb2 (by omega))
    have hS := Lib.hid (hS.out.under hb2 (by omega))
    clear hb2 k1 hw2
    go_wp2_with (first | (refine wpList_loadR rfl _ _ rfl _ rfl k3.out Try.underlying27 rfl size27 (byteRow_size _ _) ?_) | (refine wpList_storeR rfl _ _ _ rfl _ _ rfl rfl k0.out size27 (byteRow_size _ _) (byteRow_size _ _) (byteRow_all _ _) ?_))
    refine bodyPost_ret (results_cellB rfl _ _ _ rfl (k0.out.setRow _) Try.underlying27 rfl size27 (byteRow_size _ _)) rfl ⟨_, rfl, hS.out.under (below_row (Below.refl w.heap.size _) (Nat.le_refl _) _) hgl, Gr.below hG.out (below_row (Below.refl w.heap.size _) (Nat.le_refl _) _) (Nat.le_refl _)⟩
  · go_wp2_with fail
    refine (l01DrawField hS.out).mono ?_
    rintro e wx ⟨z, loz, hiz, rfl, hs, hg⟩
    obtain ⟨mz, rfl⟩ : ∃ m : Nat, z = m := ⟨z.toNat, by omega⟩
    have k0 := Lib.hid (k0.out.grown hg ne0)
    have k1 := Lib.hid (k1.out.grown hg ne1)
    have hG := Lib.hid (Gr.trans hG.out hg)
    have hS := Lib.hid hs
    clear hs hg
    obtain ⟨wo, rfl⟩ : ∃ wo : World, wo = ws := ⟨_, rfl⟩
    go_wp2_with fail
    obtain ⟨ws, rfl⟩ : ∃ ws : World, ws = wx := ⟨_, rfl⟩
    have hb := (Below.refl ws.heap.size ws).alloc (Nat.le_refl _) (.cells #[.int .i64 3, .int .i64 5, .int .i64 15, .int .i64 255] 2)
    have kl : Lst (ws.alloc (.cells #[.int .i64 3, .int .i64 5, .int .i64 15, .int .i64 255] 2)) ws.heap.size 4 (cst #[3, 5, 15, 255]) := ⟨(Blk.new ws _ _).lt, fun i hi => ((Blk.new ws 2 _).cell i).trans (by match i, hi with | 0, _ | 1, _ | 2, _ | 3, _ => rfl)⟩
    have nkl : ws.heap.size ≠ g := by have := hS.out.lt; omega
    have kl := Lib.hid kl
    have k0 := carryB k0 hb
    have k1 := carryB k1 hb
    have hG := Lib.hid (Gr.below hG.out hb hG.out.size)
    have hS := Lib.hid (hS.out.below hb)
    clear hb
    refine (l01Pick (cap := 4) hS.out kl.out nkl (by omega) (by omega)).mono ?_
    rintro e wx ⟨i, hi, rfl, hs, hg⟩
    have k0 := Lib.hid (k0.out.grown hg ne0)
    have k1 := Lib.hid (k1.out.grown hg ne1)
    have hG := Lib.hid (Gr.trans hG.out hg)
    have hS := Lib.hid hs
    clear hs hg
    obtain ⟨n, hn, hn2⟩ : ∃ n : Nat, cst #[3, 5, 15, 255] i = (n : Int) ∧ n < 2 ^ 32 := by match i, hi with | 0, _ | 1, _ | 2, _ | 3, _ => exact ⟨_, rfl, by decide⟩
    rw [hn]
    go_wp2_with fail
    refine (l02Power mz n (by omega) (by omega) hn2 _).mono ?_
    rintro e wx ⟨rfl, hb⟩
    have k0 := carryB k0 hb
    have k1 := carryB k1 hb
    have hG := Lib.hid (Gr.below hG.out hb hG.out.size)
    have hS := Lib.hid (hS.out.below hb)
    clear hb
    have hb2 := below_row (Below.refl wo.heap.size wx) (Nat.le_refl wo.heap.size) (byteRow 256 (powF mz n))
    have k3 := Lib.hid (k1.out.setRow (byteRow 256 (powF mz n)))
    obtain ⟨w2, hw2⟩ : ∃ w2, wx.setRow wo.heap.size (byteRow 256 (powF mz n)) = w2 := ⟨_, rfl⟩
    go_upto_region 7 with (refine wpList_storeR rfl _ _ _ rfl _ _ rfl rfl k1.out size27 (byteRow_size _ _) (byteRow_size _ _) (byteRow_all _ _) ?_)
    rw [hw2] at hb2 k3 ⊢
    have k0 := Lib.hid (k0.out.below hb2 (by omega))
    have hG := Lib.hid (Gr.below hG.out hb2 (by omega))
    have hS := Lib.hid (hS.out.under hb2 (by omega))
    clear hb2 k1 hw2
    go_wp2_with (first | (refine wpList_loadR rfl _ _ rfl _ rfl k3.out Try.underlying27 rfl size27 (byteRow_size _ _) ?_) | (refine wpList_storeR rfl _ _ _ rfl _ _ rfl rfl k0.out size27 (byteRow_size _ _) (byteRow_size _ _) (byteRow_all _ _) ?_))
    refine bodyPost_ret (results_cellB rfl _ _ _ rfl (k0.out.setRow _) Try.underlying27 rfl size27 (byteRow_size _ _)) rfl ⟨_, rfl, hS.out.under (below_row (Below.refl w.heap.size _) (Nat.le_refl _) _) hgl, Gr.below hG.out (below_row (Below.refl w.heap.size _) (Nat.le_refl _) _) (Nat.le_refl _)⟩
  · have g0 : ¬ (c : Int) = 0 := by omega
    have g1 : ¬ (c : Int) = 1 := by omega
    go_wp2_with (first | (refine wpList_loadR rfl _ _ rfl _ rfl k1.out Try.underlying27 rfl size27 (byteRow_size _ _) ?_) | (refine wpList_storeR rfl _ _ _ rfl _ _ rfl rfl k0.out size27 (byteRow_size _ _) (byteRow_size _ _) (byteRow_all _ _) ?_))
    refine bodyPost_ret (results_cellB rfl _ _ _ rfl (k0.out.setRow _) Try.underlying27 rfl size27 (byteRow_size _ _)) rfl ⟨_, rfl, hS.out.under (below_row (Below.refl w.heap.size _) (Nat.le_refl _) _) hgl, Gr.below hG.out (below_row (Below.refl w.heap.size _) (Nat.le_refl _) _) (Nat.le_refl _)⟩
end Go.Proofs.Ytphfiekhpicpgaa
