/- Contracts: the drawings of a block, of two blocks and of a list of blocks. No condition. -/
import Derived.Test.YtphfiekhpicpgaaRows
import Derived.Test.YtphfiekhpicpgaaDrawD
set_option linter.unusedVariables false
namespace Go.Proofs.Ytphfiekhpicpgaa
open Go.RowKit Plain
theorem RowB.keptOwn {w w' : World} {B g n : Nat} {e : TypeId} {v : Value} {b : Nat → UInt8} (h : RowB w B e v n b) (hg : w.grownBy w' (some g)) (hB : g < B) : RowB w' B e v n b :=
  h.kept hg (.inr fun e1 => by have := (h.lt g e1).1; omega)
set_option maxRecDepth 100000 in
set_option maxHeartbeats 800000 in
theorem l01DrawBlock {w : World} {B g : Nat} (hS : Src w B g) :
    Calls Try.prog 72 #[.pointer (some ⟨g, 0, none⟩)] w fun e w' => ∃ b, e = .returned (.agg (byteRow 16 b)) ∧ Src w' B g ∧ w.grownBy w' (some g) := by
  have hgl := hS.lt
  have k0 := Lib.hid ((Blk.newAt (t := 55) (cs := #[.int .u8 0, .int .u8 0, .int .u8 0, .int .u8 0, .int .u8 0, .int .u8 0, .int .u8 0, .int .u8 0, .int .u8 0, .int .u8 0, .int .u8 0, .int .u8 0, .int .u8 0, .int .u8 0, .int .u8 0, .int .u8 0]) (w := w) (n := w.heap.size) rfl).eq_ zero16)
  have hb0 := (Below.refl w.heap.size w).alloc (Nat.le_refl _) (.cells #[.int .u8 0, .int .u8 0, .int .u8 0, .int .u8 0, .int .u8 0, .int .u8 0, .int .u8 0, .int .u8 0, .int .u8 0, .int .u8 0, .int .u8 0, .int .u8 0, .int .u8 0, .int .u8 0, .int .u8 0, .int .u8 0] 55)
  have hG := Lib.hid (Gr.below (Gr.refl (g := g) w) hb0 (Nat.le_refl _))
  replace hS := Lib.hid (hS.below hb0)
  have ne0 : some w.heap.size ≠ some g := fun e => by injection e; omega
  clear hb0
  go_enter Try.func72, Try.ntmps72
  go_upto_region 1 with fail
  obtain ⟨wa, hwa⟩ : ∃ wa : World, w.alloc (.cells #[.int .u8 0, .int .u8 0, .int .u8 0, .int .u8 0, .int .u8 0, .int .u8 0, .int .u8 0, .int .u8 0, .int .u8 0, .int .u8 0, .int .u8 0, .int .u8 0, .int .u8 0, .int .u8 0, .int .u8 0, .int .u8 0] 55) = wa := ⟨_, rfl⟩
  have hsa : wa.heap.size = w.heap.size + 1 := by rw [← hwa]; simp
  rw [hwa] at k0 hG hS ⊢
  clear hwa
  have ne1 : some wa.heap.size ≠ some g := fun e => by injection e; omega
  have hga : g < wa.heap.size := by omega
  have h0a : w.heap.size < wa.heap.size := by omega
  have h1a : w.heap.size ≠ wa.heap.size := by omega
  clear hsa
  go_wp2_with (first | (refine wpList_buildZ rfl _ rfl builtK ?_) | (refine wpList_storeNew rfl _ _ _ rfl _ rfl rfl zero16 size55 (byteRow_size _ _) (byteRow_size _ _) (byteRow_all _ _) ?_; intro wy k1 hb; replace k0 := carryB k0 hb; replace hG := Lib.hid (Gr.below hG.out hb hG.out.size); replace hS := Lib.hid (hS.out.below hb); have k1 := Lib.hid k1; clear hb))
  refine (l01Next hS.out 5 (by omega) (by omega)).mono ?_
  rintro e wx ⟨c, hc, rfl, hs, hg⟩
  replace k0 := Lib.hid (k0.out.grown hg ne0)
  replace k1 := Lib.hid (k1.out.grown hg ne1)
  replace hG := Lib.hid (Gr.trans hG.out hg)
  replace hS := Lib.hid hs
  clear hs hg
  by_cases h0 : c = 0
  · subst h0
    go_wp2_with fail
    refine (l01Next hS.out 16 (by omega) (by omega)).mono ?_
    rintro e wx ⟨x, hx, rfl, hs, hg⟩
    replace k0 := Lib.hid (k0.out.grown hg ne0)
    replace k1 := Lib.hid (k1.out.grown hg ne1)
    replace hG := Lib.hid (Gr.trans hG.out hg)
    replace hS := Lib.hid hs
    clear hs hg
    go_wp2_with fail
    refine (l01DrawByte hS.out).mono ?_
    rintro e wx ⟨y, rfl, hs, hg⟩
    replace k0 := Lib.hid (k0.out.grown hg ne0)
    replace k1 := Lib.hid (k1.out.grown hg ne1)
    replace hG := Lib.hid (Gr.trans hG.out hg)
    replace hS := Lib.hid hs
    clear hs hg
    have hxi : (x : Int) < 16 := by omega
    have f1 := k1.out.frozen x
    have c1 := k1.out.byteAt (i := x) (by omega)
    have hb2 := (Below.refl wa.heap.size wx).setCell (p := ⟨wa.heap.size, x, none⟩) (Nat.le_refl _) (.int .u8 (y.toNat : Int))
    have k3 := Lib.hid (k1.out.bytePut x y)
    obtain ⟨w2, hw2⟩ : ∃ w2, wx.setCell ⟨wa.heap.size, x, none⟩ (.int .u8 (y.toNat : Int)) = w2 := ⟨_, rfl⟩
    go_upto_region 4 with fail
    rw [hw2] at hb2 k3
    replace k0 := Lib.hid (k0.out.below hb2 h0a)
    replace hG := Lib.hid (Gr.below hG.out hb2 (Nat.le_of_lt h0a))
    replace hS := Lib.hid (hS.out.under hb2 hga)
    clear hb2 k1 hw2
    go_wp2_with (first | (refine wpList_loadR rfl _ _ rfl _ rfl k3.out Try.underlying55 rfl size55 (byteRow_size _ _) ?_) | (refine wpList_storeR rfl _ _ _ rfl _ _ rfl rfl k0.out size55 (byteRow_size _ _) (byteRow_size _ _) (byteRow_all _ _) ?_))
    refine bodyPost_ret (results_cellB rfl _ _ _ rfl (k0.out.setRow _) Try.underlying55 rfl size55 (byteRow_size _ _)) rfl ⟨_, rfl, hS.out.under (below_row (Below.refl w.heap.size _) (Nat.le_refl _) _) hgl, Gr.below hG.out (below_row (Below.refl w.heap.size _) (Nat.le_refl _) _) (Nat.le_refl _)⟩
  · have h1 : ((c : Int) == 0) = false := by rw [beq_eq_false_iff_ne]; omega
    clear h0
    go_wp2_with fail
    go_loopw [4] (fun i wr => ∃ (k : Nat) (f : Nat → UInt8), k ≤ 16 ∧ i = .int .i64 (k : Int) ∧ Blk wr w.heap.size 55 (byteRow 16 (fun _ => 0)) ∧ Blk wr wa.heap.size 55 (byteRow 16 f) ∧ Src wr B g ∧ Gr g w wr)
      (fun i _ => 16 - (intOf i).toNat)
    case atStart => exact ⟨0, _, by omega, rfl, k0.out, k1.out, hS.out, hG.out⟩
    case round =>
      clear k0 k1 hS hG
      obtain ⟨k, f, hk, rfl, k0, k1, hS, hG⟩ := hrel
      replace k0 := Lib.hid k0
      replace k1 := Lib.hid k1
      replace hS := Lib.hid hS
      replace hG := Lib.hid hG
      by_cases hlt : k < 16
      · have hki : (k : Int) < 16 := by omega
        go_wp2_with fail
        refine (l01Next hS.out 256 (by omega) (by omega)).mono ?_
        rintro e wx ⟨y, hy, rfl, hs, hg⟩
        replace k0 := Lib.hid (k0.out.grown hg ne0)
        replace k1 := Lib.hid (k1.out.grown hg ne1)
        replace hG := Lib.hid (Gr.trans hG.out hg)
        replace hS := Lib.hid hs
        clear hs hg
        have hwy := wrapU8_small hy
        have f1 := k1.out.frozen k
        have c1 := k1.out.byteAt hlt
        have hb2 := (Below.refl wa.heap.size wx).setCell (p := ⟨wa.heap.size, k, none⟩) (Nat.le_refl _) (.int .u8 (y : Int))
        have k3 := Lib.hid (k1.out.bytePutN k hy)
        replace k0 := Lib.hid (k0.out.below hb2 h0a)
        replace hG := Lib.hid (Gr.below hG.out hb2 (Nat.le_of_lt h0a))
        replace hS := Lib.hid (hS.out.under hb2 hga)
        clear hb2 k1
        go_wp2
        go_roundw
        case rel => exact ⟨k + 1, _, by omega, by go_num, k0.out, k3.out, hS.out, hG.out⟩
        case measure => simp [intOf]; omega
      · obtain rfl : k = 16 := by omega
        go_wp2_with (first | (refine wpList_loadR rfl _ _ rfl _ rfl k1.out Try.underlying55 rfl size55 (byteRow_size _ _) ?_) | (refine wpList_storeR rfl _ _ _ rfl _ _ rfl rfl k0.out size55 (byteRow_size _ _) (byteRow_size _ _) (byteRow_all _ _) ?_))
        refine bodyPost_ret (results_cellB rfl _ _ _ rfl (k0.out.setRow _) Try.underlying55 rfl size55 (byteRow_size _ _)) rfl ⟨_, rfl, hS.out.under (below_row (Below.refl w.heap.size _) (Nat.le_refl _) _) hgl, Gr.below hG.out (below_row (Below.refl w.heap.size _) (Nat.le_refl _) _) (Nat.le_refl _)⟩
theorem join_fun (b c : Nat → UInt8) (q : Nat) : ∃ b' : Nat → UInt8, (∀ i, i < q → b i = b' i) ∧ c = fun j => b' (q + j) := by
  refine ⟨fun i => if i < q then b i else c (i - q), fun i hi => (if_pos hi).symm, ?_⟩
  funext j
  show c j = if q + j < q then b (q + j) else c (q + j - q)
  rw [if_neg (by omega), Nat.add_sub_cancel_left]
set_option maxRecDepth 100000 in
set_option maxHeartbeats 1600000 in
theorem drawDataOfBlocks {a : Option Addr} {n cap : Nat} {b : Nat → UInt8} (w : World) (hs : ByteS w a n cap b) (hn : n ≤ 4096) :
    Calls Try.prog 29 #[.slice a n cap] w fun e w' => ∃ v : Value, e = .returned v ∧ (∃ (m : Nat) (f : Nat → UInt8), m ≤ 2100 ∧ RowB w' w.heap.size 55 v m f) ∧ Below w.heap.size w w' := by
  obtain ⟨i0, hi, hz, hsz, hby⟩ := info_parts info_blk
  have l := Lib.hid (Below.refl w.heap.size w)
  replace hs := Lib.hid hs
  go_enter Try.func29, Try.ntmps29
  go_wp2_with fail
  refine (l01From _ hs.out hn).mono ?_
  rintro e wx ⟨g, rfl, hS, hb⟩
  have hgB := hS.1
  have hgl := hS.lt
  replace l := carryS l hb
  have S := Lib.hid (hS.below ((Below.refl _ _).alloc (Nat.le_refl _) (.cells #[] 55)))
  clear hb hs hS
  obtain ⟨ws, rfl⟩ : ∃ ws : World, ws = wx := ⟨_, rfl⟩
  have hws := l.out.size
  have V := Lib.hid (RowB.new (w := ws) (B := ws.heap.size) (e := 55) (b := fun _ => 0) rfl (Nat.le_refl _))
  replace l := Lib.hid (l.out.alloc hws (.cells #[] 55))
  have hW : Hid (ws.heap.size ≤ (ws.alloc (.cells #[] 55)).heap.size) := Lib.hid (by simp)
  go_wp2_with fail
  refine (l01Next S.out 5 (by omega) (by omega)).mono ?_
  rintro e wx ⟨x, hx, rfl, hs, hg⟩
  replace l := Lib.hid (below_grown l.out hg l.out.size (fun k hk => by injection hk with hk; omega))
  replace V := Lib.hid (V.out.keptOwn hg hgl)
  replace S := Lib.hid hs
  replace hW := Lib.hid (Nat.le_trans hW.out hg.size)
  clear hs hg
  go_wp2_with fail
  refine (l01Next S.out 12 (by omega) (by omega)).mono ?_
  rintro e wx ⟨y, hy, rfl, hs, hg⟩
  replace l := Lib.hid (below_grown l.out hg l.out.size (fun k hk => by injection hk with hk; omega))
  replace V := Lib.hid (V.out.keptOwn hg hgl)
  replace S := Lib.hid hs
  replace hW := Lib.hid (Nat.le_trans hW.out hg.size)
  clear hs hg
  go_wp2_with fail
  refine (pickLit S.out [(x : Int), (y : Int), 125, 126] 4 (by simp) (by simp)).mono ?_
  rintro e wx ⟨i, hii, rfl, hs, hg⟩
  replace l := Lib.hid (below_grown l.out hg l.out.size (fun k hk => by injection hk with hk; omega))
  replace V := Lib.hid (V.out.keptOwn hg hgl)
  replace S := Lib.hid hs
  replace hW := Lib.hid (Nat.le_trans hW.out hg.size)
  clear hs hg
  obtain ⟨q, hq, hq2⟩ : ∃ q : Nat, q ≤ 126 ∧ [(x : Int), (y : Int), 125, 126].getD i 0 = (q : Int) := by
    match i, hii with
    | 0, _ => exact ⟨x, by omega, rfl⟩
    | 1, _ => exact ⟨y, by omega, rfl⟩
    | 2, _ => exact ⟨125, by omega, rfl⟩
    | 3, _ => exact ⟨126, by omega, rfl⟩
  rw [hq2]
  clear hq2 hii hx hy
  go_wp2_with fail
  go_loopw [5, 4] (fun i v wr => ∃ (k m : Nat) (f : Nat → UInt8), k + m ≤ 126 ∧ i = .int .i64 k ∧ ws.heap.size ≤ wr.heap.size ∧ RowB wr ws.heap.size 55 v m f ∧ Src wr w.heap.size g ∧ Below w.heap.size w wr)
    (fun i _ _ => (intOf i).toNat)
  case atStart => exact ⟨q, 0, _, by omega, rfl, hW.out, V.out, S.out, l.out⟩
  case round =>
    clear V S l hW
    obtain ⟨k, m, f, hk, rfl, hW, hv, hs, hb⟩ := hrel
    by_cases h0 : 0 < k
    · have hki : (0 : Int) < (k : Int) := by omega
      have Hv := Lib.hid hv; clear hv; have Hs := Lib.hid hs; clear hs; have Hb := Lib.hid hb; clear hb
      go_wp2_with fail
      refine (l01DrawBlock Hs.out).mono ?_
      rintro e wx ⟨c, rfl, hs, hg⟩
      replace hW := Nat.le_trans hW hg.size
      obtain ⟨f', hff, rfl⟩ := join_fun f c (m * 16)
      replace Hv := Lib.hid ((Hv.out.keptOwn hg hgl).congr hff)
      replace Hb := Lib.hid (below_grown Hb.out hg Hb.out.size (fun k hk => by injection hk with hk; omega))
      replace Hs := Lib.hid hs
      clear hs hg hff
      have bs := byteRow_size 16 (fun j => f' (m * 16 + j))
      go_wp2_with (at_builtin; refine wpList_appendK rfl _ _ _ rfl ws.heap.size 55 i0 _ Try.underlying48 hi hz rfl hsz hby _ m f' rfl (Hv.out.alloc _) _ _ rfl (cells_of rfl) (by omega) (by simp; omega) ?_; intro vy wy hl hg; have hW : ws.heap.size ≤ wy.heap.size := (by have := hg.size; simp at this; omega); have BB := Lib.hid (below_grown (Hb.out.alloc (by omega) _) hg (by simp; omega) (fun q hq => by have := (Hv.out.lt q hq).1; omega)); have SY := Lib.hid ((Hs.out.below ((Below.refl _ _).alloc (Nat.le_refl _) _)).grown hg (fun e => by have := (Hv.out.lt _ e.symm).1; omega) (fun q hq => by have := (Hv.out.lt q hq).1; omega)); have LY := Lib.hid hl; clear hl hg)
      go_roundw
      case rel => exact ⟨k - 1, m + 1, f', by omega, by rw [show ((k - 1 : Nat) : Int) = (k : Int) - 1 by omega], hW, LY.out, SY.out, BB.out⟩
      case measure => simp [intOf]; omega
    · obtain rfl : k = 0 := by omega
      have hki : ¬ (0 : Int) < ((0 : Nat) : Int) := by omega
      have Hv := Lib.hid hv; clear hv; have Hs := Lib.hid hs; clear hs; have Hb := Lib.hid hb; clear hb
      go_wp2_with fail
      go_ret
      have hm : m ≤ 2100 := by omega
      exact ⟨_, rfl, ⟨m, hm, f, Hv.out.mono hws⟩, Hb.out⟩
set_option maxRecDepth 100000 in
set_option maxHeartbeats 400000 in
theorem l01FromU {a : Option Addr} {n cap B : Nat} {b : Nat → UInt8} (w : World) (hB : B ≤ w.heap.size) (hsrc : n = 0 ∨ ∃ g off, a = some ⟨g, off, none⟩ ∧ g < B ∧ ∀ i, i < n → w.cell? ⟨g, off + i, none⟩ = some (.int .u8 ((b i).toNat : Int))) (hn : n ≤ 4096) :
    Calls Try.prog 49 #[.slice a n cap] w fun e w' => ∃ g, e = .returned (.pointer (some ⟨g, 0, none⟩)) ∧ Src w' B g ∧ w.heap.size ≤ g ∧ Below w.heap.size w w' := by
  go_enter Try.func49, Try.ntmps49
  go_wp2_with fail
  go_loopw [4] (fun i wr => ∃ (k : Nat) (h : Int), k ≤ n ∧ i = .int .i64 k ∧ Blk wr w.heap.size 95 #[.slice a n cap, .int .i64 0, .int .u64 h] ∧ Below w.heap.size w wr)
    (fun i _ => n - (intOf i).toNat)
  case atStart => exact ⟨0, _, by omega, rfl, Blk.new w _ _, (Below.refl _ _).alloc (by omega) _⟩
  case round =>
    obtain ⟨k, h, hk, rfl, hr, hb⟩ := hrel
    by_cases hlt : k < n
    · have hki : (k : Int) < n := by omega
      have hki2 : (k : Int) < 4096 := by omega
      obtain ⟨g, off, rfl, hg, hcell⟩ := hsrc.resolve_left (by omega)
      clear hsrc
      have c0 : wr.cell? ⟨g, off + k, none⟩ = some (.int .u8 ((b k).toNat : Int)) := (hb.cell (p := ⟨g, off + k, none⟩) (Nat.lt_of_lt_of_le hg hB)).trans (hcell k hlt)
      have c2 : wr.cell? ⟨w.heap.size, 2, none⟩ = some (.int .u64 h) := hr.cell 2
      have f2 := hr.frozen 2
      clear hcell
      have Hr := Lib.hid hr; clear hr; have Hb := Lib.hid hb; clear hb
      go_upto_region 5 with fail
      go_still_tail 15, rfl
      change wpList _ _ _ _ _ wr.drew
      go_wp2
      go_roundw
      case rel => exact ⟨k + 1, _, by omega, by go_num, Hr.out.set_ 2 _, (Hb.out.setCell (p := ⟨w.heap.size, 2, none⟩) (by show _ ≤ w.heap.size; omega) _).drew⟩
      case measure => simp [intOf]; omega
    · obtain rfl : k = n := by omega
      have hlt2 : ¬ (k : Int) < (k : Int) := by omega
      have Hr := Lib.hid hr; clear hr; have Hb := Lib.hid hb; clear hb
      go_wp2
      go_ret
      refine ⟨_, rfl, ⟨hB, a, k, cap, b, 0, h, Hr.out, hn, by omega, hsrc.imp id fun ⟨gc, off, e, hgc, hc⟩ => ⟨gc, off, e, hgc, fun i hi => (Hb.out.cell (p := ⟨gc, off + i, none⟩) (Nat.lt_of_lt_of_le hgc hB)).trans (hc i hi)⟩⟩, Nat.le_refl _, Hb.out⟩
theorem results_two {P : Program} {fn : Func} {p p2 : Tmp} {ty : TypeId} (h : fn.results = #[.cell p ty, .cell p2 ty]) (tmps : Array Value) (w : World) (g g2 : Nat) {t t2 : TypeId} {cs cs2 : Array Value} {d : TypeDesc} {n : Nat}
    (hp : tmps.getD p undef = .pointer (some ⟨g, 0, none⟩)) (hp2 : tmps.getD p2 undef = .pointer (some ⟨g2, 0, none⟩)) (hg : Blk w g t cs) (hg2 : Blk w g2 t2 cs2)
    (hu : P.underlying ty = some d) (hd : (match d with | .struct _ | .array _ _ => true | _ => false) = true) (hi : (P.info? ty).map (·.size) = some n) (hn : cs.size = n) (hn2 : cs2.size = n) :
    (results fn tmps).run P w = .ok (.tuple #[.agg cs, .agg cs2]) w := by
  have hp' : tmps[p]?.getD undef = .pointer (some ⟨g, 0, none⟩) := by simpa using hp
  have hp2' : tmps[p2]?.getD undef = .pointer (some ⟨g2, 0, none⟩) := by simpa using hp2
  have hl := run_loadVar_row (P := P) w g t ty cs (0, 0) d hg hu hd (by rw [hi, hn])
  have hl2 := run_loadVar_row (P := P) w g2 t2 ty cs2 (0, 0) d hg2 hu hd (by rw [hi, hn2])
  simp [results, h, hp', hp2', asAddr, hl, hl2]
section
variable {a : Act} {w : World} {V : Nat → Value → World → Prop} {C : World → Prop} {o : Oper} {P : Program} {Q : Exit → Act → World → Prop} {i : Nat} {E : World → World → Prop}
theorem some_load (ty : TypeId) (x : Operand) (ho : o.op = .load ty x) (g : Nat) (hx : a.eval x = .pointer (some ⟨g, 0, none⟩)) {t : TypeId} {cs : Array Value} {d : TypeDesc} {n : Nat} (hg : Blk w g t cs)
    (hu : P.underlying ty = some d) (hd : (match d with | .struct _ | .array _ _ => true | _ => false) = true) (hi : (P.info? ty).map (·.size) = some n) (hn : cs.size = n) (hv : V i (.agg cs) w) (hc : C w) (hE : E w w) :
    o.wp P a w (fun a' w' => ∃ v, a' = a.put o.dst v ∧ V i v w' ∧ C w' ∧ E w w') Q :=
  wp_load_row ty x ho g hx t cs (0, 0) d hg hu hd (by rw [hi, hn]) ⟨_, rfl, hv, hc, hE⟩
theorem some_store (ty : TypeId) (x y : Operand) (ho : o.op = .store ty x y) (g : Nat) {cells old : Array Value} {t : TypeId} {n : Nat} (hx : a.eval x = .pointer (some ⟨g, 0, none⟩)) (hy : a.eval y = .agg cells) (hg : Blk w g t old)
    (hi : (P.info? ty).map (·.size) = some n) (hold : old.size = n) (hn : cells.size = n) (h1 : cells.all (·.oneCell') = true) (hv : V i undef (w.setRow g cells)) (hc : C (w.setRow g cells)) (hE : E w (w.setRow g cells)) :
    o.wp P a w (fun a' w' => ∃ v, a' = a.put o.dst v ∧ V i v w' ∧ C w' ∧ E w w') Q :=
  wp_store_row ty x y ho g cells hx hy t old hg (by rw [hi, hn]) (by rw [hold, hn]) h1 ⟨_, rfl, hv, hc, hE⟩
end
/-- Three blocks of 16 bytes and a source beside them. -/
def ThreeC (w0 : World) (B p q r g : Nat) (w : World) : Prop :=
  (∃ f, Blk w p 55 (byteRow 16 f)) ∧ (∃ f, Blk w q 55 (byteRow 16 f)) ∧ (∃ f, Blk w r 55 (byteRow 16 f)) ∧ Src w B g ∧ Below B w0 w
theorem ThreeC.drew {w0 w : World} {B p q r g : Nat} (h : ThreeC w0 B p q r g w) : ThreeC w0 B p q r g w.drew := by
  obtain ⟨⟨f1, k1⟩, ⟨f2, k2⟩, ⟨f3, k3⟩, s, b⟩ := h
  exact ⟨⟨f1, k1.drew⟩, ⟨f2, k2.drew⟩, ⟨f3, k3.drew⟩, s, b.drew⟩
theorem ThreeC.first {w0 w : World} {B p q r g : Nat} (h : ThreeC w0 B p q r g w) (hp : B ≤ p) (h1 : q ≠ p) (h2 : r ≠ p) (h3 : g ≠ p) (f : Nat → UInt8) : ThreeC w0 B p q r g (w.setRow p (byteRow 16 f)) := by
  obtain ⟨⟨f1, k1⟩, ⟨f2, k2⟩, ⟨f3, k3⟩, s, b⟩ := h
  exact ⟨⟨f, k1.setRow _⟩, ⟨f2, k2.rowFar h1 _⟩, ⟨f3, k3.rowFar h2 _⟩, s.keep (below_row (Below.refl _ _) hp _) (setRow_other w p g _ h3), below_row b hp _⟩
theorem ThreeC.second {w0 w : World} {B p q r g : Nat} (h : ThreeC w0 B p q r g w) (hp : B ≤ q) (h1 : p ≠ q) (h2 : r ≠ q) (h3 : g ≠ q) (f : Nat → UInt8) : ThreeC w0 B p q r g (w.setRow q (byteRow 16 f)) := by
  obtain ⟨⟨f1, k1⟩, ⟨f2, k2⟩, ⟨f3, k3⟩, s, b⟩ := h
  exact ⟨⟨f1, k1.rowFar h1 _⟩, ⟨f, k2.setRow _⟩, ⟨f3, k3.rowFar h2 _⟩, s.keep (below_row (Below.refl _ _) hp _) (setRow_other w q g _ h3), below_row b hp _⟩
theorem ThreeC.grown {w0 w w' : World} {B p q r g : Nat} (h : ThreeC w0 B p q r g w) (h1 : p ≠ g) (h2 : q ≠ g) (h3 : r ≠ g) (hs : Src w' B g) (hg : w.grownBy w' (some g)) : ThreeC w0 B p q r g w' := by
  obtain ⟨⟨f1, k1⟩, ⟨f2, k2⟩, ⟨f3, k3⟩, s, b⟩ := h
  exact ⟨⟨f1, k1.grown hg (fun e => h1 (by injection e))⟩, ⟨f2, k2.grown hg (fun e => h2 (by injection e))⟩, ⟨f3, k3.grown hg (fun e => h3 (by injection e))⟩, hs, below_grown b hg (by have := s.lt; have := s.1; omega) (fun k hk => by injection hk with hk; have := s.1; omega)⟩
def anyE (_ _ : World) : Prop := True
theorem anyI (w w' : World) : anyE w w' := trivial
def rowV4 : Nat → Value → World → Prop
  | 0, v, _ | 1, v, _ => ∃ f, v = .agg (byteRow 16 f)
  | _, _, _ => True
theorem rowV4_mono : ∀ i v w w', anyE w w' → rowV4 i v w → rowV4 i v w' := fun i v w w' _ h => by
  unfold rowV4 at h ⊢
  split <;> first | exact h | trivial
def rowV5 (g : Nat) : Nat → Value → World → Prop
  | 0, v, _ | 2, v, _ => ∃ f, v = .agg (byteRow 16 f)
  | 1, v, _ => v = .pointer (some ⟨g, 0, none⟩)
  | _, _, _ => True
theorem rowV5_mono {g : Nat} : ∀ i v w w', anyE w w' → rowV5 g i v w → rowV5 g i v w' := fun i v w w' _ h => by
  unfold rowV5 at h ⊢
  split <;> first | exact h | trivial
set_option maxRecDepth 100000 in
set_option maxHeartbeats 1600000 in
theorem drawXorBlocks {a : Option Addr} {n cap : Nat} {b : Nat → UInt8} (w : World) (hs : ByteS w a n cap b) (hn : n ≤ 4096) :
    Calls Try.prog 31 #[.slice a n cap] w fun e w' => ∃ f h : Nat → UInt8, e = .returned (.tuple #[.agg (byteRow 16 f), .agg (byteRow 16 h)]) ∧ Below w.heap.size w w' := by
  have hsrc := hs.2.2
  clear hs
  go_enter Try.func31, Try.ntmps31
  go_upto_region 1 with fail
  obtain ⟨Z, hZ⟩ : ∃ Z : Array Value, (#[.int .u8 0, .int .u8 0, .int .u8 0, .int .u8 0, .int .u8 0, .int .u8 0, .int .u8 0, .int .u8 0, .int .u8 0, .int .u8 0, .int .u8 0, .int .u8 0, .int .u8 0, .int .u8 0, .int .u8 0, .int .u8 0] : Array Value) = Z := ⟨_, rfl⟩
  have hZ2 : Z = byteRow 16 (fun _ => 0) := by rw [← hZ]; exact zero16
  rw [hZ]
  clear hZ
  have hb0 := (Below.refl w.heap.size w).alloc (Nat.le_refl _) (.cells Z 55)
  have hb1 := hb0.alloc (by simp) (.cells Z 55)
  have k0 := ((Blk.newAt (t := 55) (cs := Z) (w := w) rfl).alloc (.cells Z 55)).eq_ hZ2
  have k1 := (Blk.newAt (t := 55) (cs := Z) (w := w.alloc (.cells Z 55)) (n := w.heap.size + 1) (by simp)).eq_ hZ2
  obtain ⟨wa, hwa⟩ : ∃ wa : World, (w.alloc (.cells Z 55)).alloc (.cells Z 55) = wa := ⟨_, rfl⟩
  have hsa : wa.heap.size = w.heap.size + 1 + 1 := by rw [← hwa]; simp
  rw [hwa] at k0 k1 hb1 ⊢
  have hsrc2 : n = 0 ∨ ∃ g off, a = some ⟨g, off, none⟩ ∧ g < w.heap.size ∧ ∀ i, i < n → wa.cell? ⟨g, off + i, none⟩ = some (.int .u8 ((b i).toNat : Int)) :=
    hsrc.imp id fun ⟨gc, off, e, hgc, hc⟩ => ⟨gc, off, e, hgc, fun i hi => (hb1.cell (p := ⟨gc, off + i, none⟩) hgc).trans (hc i hi)⟩
  have k0 := Lib.hid k0
  have k1 := Lib.hid k1
  have l := Lib.hid hb1
  have HF := Lib.hid (l01FromU (cap := cap) wa (B := w.heap.size) (by omega) hsrc2 hn)
  have h0a : w.heap.size < wa.heap.size := by omega
  have h1a : w.heap.size + 1 < wa.heap.size := by omega
  clear hwa hZ2 hb0 hb1 hsrc hsrc2 hsa
  go_wp2_with fail
  refine HF.out.mono ?_
  rintro e wx ⟨g, rfl, hS, hga, hb⟩
  replace k0 := carryB k0 hb
  replace k1 := carryB k1 hb
  replace l := carryS l hb
  have S := Lib.hid hS
  have n0 : w.heap.size ≠ g := by omega
  have n1 : w.heap.size + 1 ≠ g := by omega
  have n0' : g ≠ w.heap.size := by omega
  have n1' : g ≠ w.heap.size + 1 := by omega
  clear hb hS HF
  go_wp2_with fail
  refine (l01DrawBlock S.out).mono ?_
  rintro e wx ⟨f, rfl, hs, hg⟩
  replace k0 := Lib.hid (k0.out.grown hg (fun e => n0 (by injection e)))
  replace k1 := Lib.hid (k1.out.grown hg (fun e => n1 (by injection e)))
  replace l := Lib.hid (below_grown l.out hg l.out.size (fun k hk => by injection hk with hk; omega))
  replace S := Lib.hid hs
  clear hs hg
  obtain ⟨ws, rfl⟩ : ∃ ws : World, ws = wx := ⟨_, rfl⟩
  have hgs := S.out.lt
  have hk1 := k1.out.lt
  go_wp2_with (refine wpList_storeNew rfl _ _ _ rfl _ rfl rfl zero16 size55 (byteRow_size _ _) (byteRow_size _ _) (byteRow_all _ _) ?_; intro wy k5 hb; replace k0 := carryB k0 hb; replace k1 := carryB k1 hb; replace l := carryS l hb; replace S := Lib.hid (S.out.below hb); have k5 := Lib.hid k5; clear hb)
  refine (l01Next S.out 6 (by omega) (by omega)).mono ?_
  rintro e wx ⟨c, hc, rfl, hs, hg⟩
  replace k0 := Lib.hid (k0.out.grown hg (fun e => n0 (by injection e)))
  replace k1 := Lib.hid (k1.out.grown hg (fun e => n1 (by injection e)))
  replace k5 := Lib.hid (k5.out.grown hg (fun e => by injection e; omega))
  replace l := Lib.hid (below_grown l.out hg l.out.size (fun k hk => by injection hk with hk; omega))
  replace S := Lib.hid hs
  clear hs hg
  have m0 : ws.heap.size ≠ w.heap.size := by omega
  have m1 : ws.heap.size ≠ w.heap.size + 1 := by omega
  have m2 : ws.heap.size ≠ g := by omega
  have TC : Hid (ThreeC w w.heap.size w.heap.size (w.heap.size + 1) ws.heap.size g wx) := Lib.hid ⟨⟨_, k0.out⟩, ⟨_, k1.out⟩, ⟨_, k5.out⟩, S.out, l.out⟩
  clear k0 k1 k5 l S hk1 hgs h1a h0a hga
  by_cases h0 : c = 0
  · subst h0
    go_upto_region 4 with fail
    refine wp_region_some rfl rowV4 (ThreeC w w.heap.size w.heap.size (w.heap.size + 1) ws.heap.size g) anyE rowV4_mono (by kernel_rfl) (by kernel_rfl) (by kernel_rfl) TC.out.drew ?_ (fun vals => [(some 13, vals 0), (some 14, vals 1), (none, vals 2), (none, vals 3)]) (fun vals => rfl) ?_
    · refine each_cons (fun a wr hc => ?_) (each_cons (fun a wr hc => ?_) (each_cons (fun a wr hc => ?_) (each_cons (fun a wr hc => ?_) each_nil)))
      · obtain ⟨f5, k5⟩ := hc.cls.2.2.1
        exact some_load _ _ rfl _ (hc.old 5 (by kernel_rfl)) k5 Try.underlying55 rfl size55 (byteRow_size _ _) ⟨f5, rfl⟩ hc.cls (anyI _ _)
      · obtain ⟨f5, k5⟩ := hc.cls.2.2.1
        exact some_load _ _ rfl _ (hc.old 5 (by kernel_rfl)) k5 Try.underlying55 rfl size55 (byteRow_size _ _) ⟨f5, rfl⟩ hc.cls (anyI _ _)
      · obtain ⟨f2, k2⟩ := hc.cls.1
        obtain ⟨fv, hv⟩ := hc.new 13 0 (by kernel_rfl) (by kernel_rfl)
        exact some_store _ _ _ rfl _ (hc.old 2 (by kernel_rfl)) hv k2 size55 (byteRow_size _ _) (byteRow_size _ _) (byteRow_all _ _) trivial (hc.cls.first (Nat.le_refl _) (by omega) m0 n0' _) (anyI _ _)
      · obtain ⟨f2, k2⟩ := hc.cls.2.1
        obtain ⟨fv, hv⟩ := hc.new 14 1 (by kernel_rfl) (by kernel_rfl)
        exact some_store _ _ _ rfl _ (hc.old 3 (by kernel_rfl)) hv k2 size55 (byteRow_size _ _) (byteRow_size _ _) (byteRow_all _ _) trivial (hc.cls.second (by omega) (by omega) m1 n1' _) (anyI _ _)
    · intro vals wy hv hc
      obtain ⟨⟨f1, k1⟩, ⟨f2, k2⟩, _, _, hb⟩ := hc
      have K1 := Lib.hid k1
      have K2 := Lib.hid k2
      have l := Lib.hid hb
      simp only [putAll, Act.put, List.setIfInBounds_toArray, List.set]
      clear hv k1 k2 hb TC
      go_wp2_with fail
      exact bodyPost_ret (results_two rfl _ _ _ _ rfl rfl K1.out K2.out Try.underlying55 rfl size55 (byteRow_size _ _) (byteRow_size _ _)) rfl ⟨f1, f2, rfl, l.out⟩
  · have h1 : ((c : Int) == 0) = false := by rw [beq_eq_false_iff_ne]; omega
    clear h0
    go_upto_region 5 with fail
    refine wp_region_some rfl (rowV5 g) (ThreeC w w.heap.size w.heap.size (w.heap.size + 1) ws.heap.size g) anyE rowV5_mono (by kernel_rfl) (by kernel_rfl) (by kernel_rfl) TC.out.drew ?_ (fun vals => [(some 15, vals 0), (some 16, vals 1), (some 17, vals 2), (none, vals 3), (none, vals 4)]) (fun vals => rfl) ?_
    · refine each_cons (fun a wr hc => ?_) (each_cons (fun a wr hc => ?_) (each_cons (fun a wr hc => ?_) (each_cons (fun a wr hc => ?_) (each_cons (fun a wr hc => ?_) each_nil))))
      · obtain ⟨f5, k5⟩ := hc.cls.2.2.1
        exact some_load _ _ rfl _ (hc.old 5 (by kernel_rfl)) k5 Try.underlying55 rfl size55 (byteRow_size _ _) ⟨f5, rfl⟩ hc.cls (anyI _ _)
      · have e : a.tmps[4]?.getD undef = .pointer (some ⟨g, 0, none⟩) := (eval_tmp a 4).trans (hc.old 4 (by kernel_rfl))
        refine some_val (.pointer (some ⟨g, 0, none⟩)) ?_ rfl hc.cls (anyI _ _)
        go_simp
      · have e1 : a.eval (.tmp 16) = .pointer (some ⟨g, 0, none⟩) := hc.new 16 1 (by kernel_rfl) (by kernel_rfl)
        refine some_call 72 #[.tmp 16] _ rfl (by simp only [List.map_toArray, List.map_cons, List.map_nil, e1]) (fun w => by go_simp) ((l01DrawBlock hc.cls.2.2.2.1).mono ?_)
        rintro e w' ⟨f, rfl, hs, hg⟩
        exact ⟨_, rfl, ⟨f, rfl⟩, hc.cls.grown n0 n1 m2 hs hg, anyI _ _⟩
      · obtain ⟨f2, k2⟩ := hc.cls.1
        obtain ⟨fv, hv⟩ := hc.new 15 0 (by kernel_rfl) (by kernel_rfl)
        exact some_store _ _ _ rfl _ (hc.old 2 (by kernel_rfl)) hv k2 size55 (byteRow_size _ _) (byteRow_size _ _) (byteRow_all _ _) trivial (hc.cls.first (Nat.le_refl _) (by omega) m0 n0' _) (anyI _ _)
      · obtain ⟨f2, k2⟩ := hc.cls.2.1
        obtain ⟨fv, hv⟩ := hc.new 17 2 (by kernel_rfl) (by kernel_rfl)
        exact some_store _ _ _ rfl _ (hc.old 3 (by kernel_rfl)) hv k2 size55 (byteRow_size _ _) (byteRow_size _ _) (byteRow_all _ _) trivial (hc.cls.second (by omega) (by omega) m1 n1' _) (anyI _ _)
    · intro vals wy hv hc
      obtain ⟨⟨f1, k1⟩, ⟨f2, k2⟩, _, _, hb⟩ := hc
      have K1 := Lib.hid k1
      have K2 := Lib.hid k2
      have l := Lib.hid hb
      simp only [putAll, Act.put, List.setIfInBounds_toArray, List.set]
      clear hv k1 k2 hb TC
      go_wp2_with fail
      exact bodyPost_ret (results_two rfl _ _ _ _ rfl rfl K1.out K2.out Try.underlying55 rfl size55 (byteRow_size _ _) (byteRow_size _ _)) rfl ⟨f1, f2, rfl, l.out⟩
end Go.Proofs.Ytphfiekhpicpgaa
