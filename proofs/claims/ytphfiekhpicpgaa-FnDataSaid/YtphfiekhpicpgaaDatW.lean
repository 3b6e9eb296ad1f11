/- The walk of the law on data. No condition. -/
import Derived.Test.YtphfiekhpicpgaaRows
import Derived.Test.YtphfiekhpicpgaaDatP
import Derived.Test.YtphfiekhpicpgaaEqS5
import Derived.Test.YtphfiekhpicpgaaDrawX
import Derived.Test.YtphfiekhpicpgaaDrawH
import Derived.Test.YtphfiekhpicpgaaDrawK
import Derived.Test.YtphfiekhpicpgaaLike
import Derived.Deep.DeepCutAuto
set_option linter.unusedVariables false
namespace Go.Proofs.Ytphfiekhpicpgaa
open Go.RowKit Plain
theorem implBytesHex (b : Nat → UInt8) {n : Nat} (h : n ≤ 2000) (w : World) :
    Calls Try.prog 20 #[.string (hexS b n)] w fun e w' => ∃ v, e = .returned (.tuple #[v, .int .i64 0]) ∧ RowF w' w.heap.size 5 v n (byt b) ∧ Below w.heap.size w w' := by
  obtain ⟨h1, h2⟩ := byts_hex b h
  have C := implBytesOf (hexS b n) w (by rw [hexS_size]; omega)
  rw [h1, h2, bytL_len] at C
  refine C.mono ?_
  rintro e w' ⟨v, rfl, hr, hb⟩
  exact ⟨v, rfl, hr.congr fun i hi => by show Value.int .u8 (((bytL b n).getD i 0).toNat : Int) = .int .u8 ((b i).toNat : Int); rw [bytL_at b hi], hb⟩
theorem exec_eqlU {P : Program} {o : Oper} {a : Act} (ty : TypeId) (x y : Operand) (k : TypeId) (ho : o.op = .binOp .eql ty x y k) {U : Array Value} (hx : a.eval x = .agg U) (hy : a.eval y = .agg U) (hg : P.eqGuardType P.depth ty = false)
    (q : ∀ w : World, (Op.equalIn 10000 ty (.agg U) (.agg U)).run P w = .ok true w) (w : World) : (execOp a.eval o).run P w = .ok (.value (.bool true)) w := by
  have hb : (binOp .eql ty (.agg U) (.agg U)).run P w = .ok (.bool true) w := by simp [binOp, Op.equal, Op.maxDepth, q w]
  have he := run_eqGuard_agg (P := P) (w := w) .eql ty x y U U hg
  unfold execOp
  simp only [ho, hx, hy, Sem.run_bind, he, hb, Result.andThen_ok, Sem.run_pure]
/-- Two blocks made, then two whole rows stored into them. -/
theorem two_stores (w : World) (t : TypeId) {old z : Array Value} (hz : old = z) (c1 c2 : Array Value) :
    Blk ((w.alloc (.cells old t)).alloc (.cells old t)) w.heap.size t z ∧ Blk (((w.alloc (.cells old t)).alloc (.cells old t)).setRow w.heap.size c1) (w.heap.size + 1) t z ∧
    Blk ((((w.alloc (.cells old t)).alloc (.cells old t)).setRow w.heap.size c1).setRow (w.heap.size + 1) c2) w.heap.size t c1 ∧ Blk ((((w.alloc (.cells old t)).alloc (.cells old t)).setRow w.heap.size c1).setRow (w.heap.size + 1) c2) (w.heap.size + 1) t c2 ∧
    Below w.heap.size w ((((w.alloc (.cells old t)).alloc (.cells old t)).setRow w.heap.size c1).setRow (w.heap.size + 1) c2) := by
  subst hz
  have k1 : Blk ((w.alloc (.cells old t)).alloc (.cells old t)) w.heap.size t old := (Blk.new w t old).alloc _
  have k2 : Blk ((w.alloc (.cells old t)).alloc (.cells old t)) (w.heap.size + 1) t old := Blk.newAt (by simp)
  have l := ((Below.refl w.heap.size w).alloc (Nat.le_refl _) (.cells old t)).alloc (by simp) (.cells old t)
  have k3 := k2.rowFar (k := w.heap.size) (by omega) c1
  exact ⟨k1, k3, (k1.setRow c1).rowFar (by omega) c2, k3.setRow c2, below_row (below_row l (Nat.le_refl _) _) (by omega) _⟩
set_option maxRecDepth 100000 in
set_option maxHeartbeats 8000000 in
theorem fnData.walk (a0 : Option Addr) (n cap : Nat) (b0 : Nat → UInt8) (w : World) (hs : ByteS w a0 n cap b0) :
    Calls Try.prog 4 #[.slice a0 n cap] w fun e w' => e = .returned (.bool true) ∧ Below w.heap.size w w' := by
  have G := lbig a0 n cap w
  by_cases hn : n ≤ 4096
  · rw [decide_eq_false (show ¬ (4096 : Int) < (n : Int) by omega)] at G
    replace G := Lib.hid G
    have HS := Lib.hid hs
    clear hs
    go_enter Try.func4, Try.ntmps4
    have l := Lib.hid (Below.refl w.heap.size w)
    go_wp2_with fail
    refine G.out.mono ?_
    rintro e wx ⟨rfl, hw⟩
    obtain rfl : w = wx := hw.symm
    clear G
    go_wp2_with fail
    refine (drawHexOf _ HS.out hn).mono ?_
    rintro e wx ⟨v3, rfl, ⟨m, f, hm, hr⟩, hb⟩
    replace l := carryS l hb
    have r3 := Lib.hid (hr.mono (Nat.zero_le _))
    clear hb hr
    have C1 := Lib.hid (fun w h => implHexOf (B := 0) (n := m) (v := v3) (b := f) w h)
    have C2 := Lib.hid (fun w h => specHexOf (B := 0) (n := m) (v := v3) (b := f) w h)
    have hT : m ≤ 2000 → hexV m f = hexS f m := hexV_small f
    have hc0 : m ≤ 2000 → hexK m = 0 := hexK_zero
    have hc2 : ¬ m ≤ 2000 → hexK m = 2 := hexK_two
    obtain ⟨T, hTe⟩ : ∃ T, hexV m f = T := ⟨_, rfl⟩
    obtain ⟨c, hce⟩ : ∃ c, hexK m = c := ⟨_, rfl⟩
    rw [hTe, hce] at C1 C2
    rw [hTe] at hT
    rw [hce] at hc0 hc2
    clear hTe hce
    go_wp2_with fail
    refine (C1.out _ r3.out).mono ?_
    rintro e wx ⟨rfl, hb⟩
    replace l := carryS l hb
    replace r3 := carryR r3 hb
    clear hb C1
    go_wp2_with fail
    refine (C2.out _ r3.out).mono ?_
    rintro e wx ⟨rfl, hb⟩
    replace l := carryS l hb
    replace r3 := carryR r3 hb
    clear hb C2
    go_upto_if 53 with fail
    go_cut [8, 9] (fun _ _ w1 => Below w.heap.size w w1)
    case first =>
      by_cases hm2 : m ≤ 2000
      · obtain rfl := hc0 hm2
        have hTe := hT hm2
        have CB := implBytesHex f hm2
        rw [← hTe] at CB
        replace CB := Lib.hid CB
        clear hT hc0 hc2 hTe hm hm2
        go_wp2_with fail
        refine (CB.out _).mono ?_
        rintro e wx ⟨v8, rfl, hr, hb⟩
        replace l := carryS l hb
        replace r3 := carryR r3 hb
        have r8 := Lib.hid hr
        clear hb hr CB
        go_wp2_with fail
        refine (bytes5 _ r8.out r3.out).mono ?_
        rintro e wx ⟨rfl, hb⟩
        replace l := carryS l hb
        clear hb r8 r3
        go_wp2_with fail
        go_meet
        exact l.out
      · obtain rfl := hc2 hm2
        clear hT hc0 hc2 hm hm2
        go_wp2_with fail
        go_meet
        exact l.out
    case rest =>
    replace l := Lib.hid hcut
    clear hcut r3 hT hc0 hc2 hm
    go_wp2_with fail
    refine (drawBytesOf _ (HS.out.below l.out) hn).mono ?_
    rintro e wx ⟨s, rfl, hs, hb⟩
    replace l := carryS l hb
    clear hb
    have C1 := Lib.hid (fun w => implBytesOf s w (by omega))
    have C2 := Lib.hid (fun w => specBytesOf s w (by omega))
    obtain ⟨L, hL⟩ : ∃ L, bytsL s = L := ⟨_, rfl⟩
    obtain ⟨k, hk⟩ : ∃ k, L.length = k := ⟨_, rfl⟩
    obtain ⟨fb, hfb⟩ : ∃ fb : Nat → UInt8, (fun i => L.getD i 0) = fb := ⟨_, rfl⟩
    obtain ⟨d, hd⟩ : ∃ d, bytsC s = d := ⟨_, rfl⟩
    rw [hL, hk, hd, hfb] at C1 C2
    clear hL hk hfb hd hs
    go_wp2_with fail
    refine (C1.out _).mono ?_
    rintro e wx ⟨v11, rfl, hr, hb⟩
    replace l := carryS l hb
    have r11 := Lib.hid (hr.mono (Nat.zero_le _))
    clear hb hr C1
    go_wp2_with fail
    refine (C2.out _).mono ?_
    rintro e wx ⟨v13, rfl, hr, hb⟩
    replace l := carryS l hb
    replace r11 := carryR r11 hb
    have r13 := Lib.hid (hr.mono (Nat.zero_le _))
    clear hb hr C2
    go_wp2_with fail
    refine (bytes5 _ r11.out r13.out).mono ?_
    rintro e wx ⟨rfl, hb⟩
    replace l := carryS l hb
    clear hb r11 r13
    go_wp2_with fail
    refine (drawBlocksOf _ (HS.out.below l.out) hn).mono ?_
    rintro e wx ⟨v15, rfl, ⟨m, f, hm, hr⟩, hb⟩
    replace l := carryS l hb
    have r15 := Lib.hid (hr.mono (Nat.zero_le _))
    clear hb hr
    have C1 := Lib.hid (fun w h => implBlocksOf (B := 0) (n := m) (v := v15) (b := f) w h)
    have C2 := Lib.hid (fun w h => specBlocksOf (B := 0) (n := m) (v := v15) (b := f) w h)
    have hc : blkC m = 0 → datN (blkN m) = m ∧ datC (blkN m) = 0 := fun h => dat_back (blkC_zero h).1 (blkC_zero h).2
    obtain ⟨k, hk⟩ : ∃ k, blkN m = k := ⟨_, rfl⟩
    obtain ⟨d, hd⟩ : ∃ d, blkC m = d := ⟨_, rfl⟩
    rw [hk, hd] at C1 C2
    rw [hk, hd] at hc
    clear hk hd hm
    go_wp2_with fail
    refine (C1.out _ r15.out).mono ?_
    rintro e wx ⟨v16, rfl, hr, hb⟩
    replace l := carryS l hb
    replace r15 := carryR r15 hb
    have r16 := Lib.hid (hr.mono (Nat.zero_le _))
    clear hb hr C1
    go_wp2_with fail
    refine (C2.out _ r15.out).mono ?_
    rintro e wx ⟨v18, rfl, hr, hb⟩
    replace l := carryS l hb
    replace r15 := carryR r15 hb
    replace r16 := carryK r16 hb
    have r18 := Lib.hid (hr.mono (Nat.zero_le _))
    clear hb hr C2
    go_wp2_with fail
    refine (blocks5 _ r16.out r18.out).mono ?_
    rintro e wx ⟨rfl, hb⟩
    replace l := carryS l hb
    replace r15 := carryR r15 hb
    replace r16 := carryK r16 hb
    clear hb r18
    go_upto_if 110 with fail
    go_cut [20, 21] (fun _ _ w1 => Below w.heap.size w w1)
    case first =>
      by_cases hd : d = 0
      · obtain ⟨e1, e2⟩ := hc hd
        subst hd
        have C1 := fun w h => implDataOf (B := 0) (n := k) (v := v16) (b := f) w h
        rw [e1, e2] at C1
        replace C1 := Lib.hid C1
        clear e1 e2 hc
        go_wp2_with fail
        refine (C1.out _ r16.out).mono ?_
        rintro e wx ⟨v20, rfl, hr, hb⟩
        replace l := carryS l hb
        replace r15 := carryR r15 hb
        have r20 := Lib.hid (hr.mono (Nat.zero_le _))
        clear hb hr C1 r16
        go_wp2_with fail
        refine (bytes5 _ r20.out r15.out).mono ?_
        rintro e wx ⟨rfl, hb⟩
        replace l := carryS l hb
        clear hb r20 r15
        go_wp2_with fail
        go_meet
        exact l.out
      · have hd1 : (d == 0) = false := by rw [beq_eq_false_iff_ne]; exact hd
        clear hd hc
        go_wp2_with fail
        go_meet
        exact l.out
    case rest =>
    replace l := Lib.hid hcut
    clear hcut r15 r16 hc
    go_wp2_with fail
    refine (drawDataOfBlocks _ (HS.out.below l.out) hn).mono ?_
    rintro e wx ⟨v22, rfl, ⟨m, f, hm, hr⟩, hb⟩
    replace l := carryS l hb
    have r22 := Lib.hid (hr.mono (Nat.zero_le _))
    clear hb hr hm
    have C1 := Lib.hid (fun w h => implDataOf (B := 0) (n := m) (v := v22) (b := f) w h)
    have C2 := Lib.hid (fun w h => specDataOf (B := 0) (n := m) (v := v22) (b := f) w h)
    obtain ⟨k, hk⟩ : ∃ k, datN m = k := ⟨_, rfl⟩
    obtain ⟨d, hd⟩ : ∃ d, datC m = d := ⟨_, rfl⟩
    rw [hk, hd] at C1 C2
    clear hk hd
    go_wp2_with fail
    refine (C1.out _ r22.out).mono ?_
    rintro e wx ⟨v23, rfl, hr, hb⟩
    replace l := carryS l hb
    replace r22 := carryK r22 hb
    have r23 := Lib.hid (hr.mono (Nat.zero_le _))
    clear hb hr C1
    go_wp2_with fail
    refine (C2.out _ r22.out).mono ?_
    rintro e wx ⟨v25, rfl, hr, hb⟩
    replace l := carryS l hb
    replace r23 := carryR r23 hb
    have r25 := Lib.hid (hr.mono (Nat.zero_le _))
    clear hb hr C2 r22
    go_wp2_with fail
    refine (drawXorBlocks _ (HS.out.below l.out) hn).mono ?_
    rintro e wx ⟨p, q, rfl, hb⟩
    replace l := carryS l hb
    replace r23 := carryR r23 hb
    replace r25 := carryR r25 hb
    clear hb
    have CX := implXorBlocks p q
    have CS := specXorBlocks p q
    have CY := implXorBlocks (xorOf p q) q
    rw [xor_back] at CY
    obtain ⟨Z, hZ⟩ : ∃ Z, xorOf p q = Z := ⟨_, rfl⟩
    rw [hZ] at CX CS CY
    have eA := eqBlockA p
    have eC := eqBlockA Z
    have sA := byteRow_size 16 p
    have sB := byteRow_size 16 q
    have sC := byteRow_size 16 Z
    have aA := byteRow_all 16 p
    have aB := byteRow_all 16 q
    have aC := byteRow_all 16 Z
    obtain ⟨UA, hA⟩ : ∃ U, byteRow 16 p = U := ⟨_, rfl⟩
    obtain ⟨UB, hB⟩ : ∃ U, byteRow 16 q = U := ⟨_, rfl⟩
    obtain ⟨UC, hC⟩ : ∃ U, byteRow 16 Z = U := ⟨_, rfl⟩
    rw [hA, hB, hC] at CX CS
    rw [hA, hB, hC] at CY
    rw [hA] at eA sA aA ⊢
    rw [hB] at sB aB ⊢
    rw [hC] at eC sC aC
    clear hA hB hC hZ
    replace CX := Lib.hid CX
    replace CY := Lib.hid CY
    replace CS := Lib.hid CS
    obtain ⟨ws, rfl⟩ : ∃ ws : World, ws = wx := ⟨_, rfl⟩
    obtain ⟨ZB, hZB⟩ : ∃ ZB : Array Value, (#[.int .u8 0, .int .u8 0, .int .u8 0, .int .u8 0, .int .u8 0, .int .u8 0, .int .u8 0, .int .u8 0, .int .u8 0, .int .u8 0, .int .u8 0, .int .u8 0, .int .u8 0, .int .u8 0, .int .u8 0, .int .u8 0] : Array Value) = ZB := ⟨_, rfl⟩
    have hZs : ZB.size = 16 := by rw [← hZB]; rfl
    have ST := Lib.hid (two_stores ws 55 hZB UA UB)
    clear hZB
    go_upto_region 30 with (first | (refine wpList_storeR rfl _ _ _ rfl _ _ rfl rfl ST.out.1 size55 hZs sA aA ?_) | (refine wpList_storeR rfl _ _ _ rfl _ _ rfl rfl ST.out.2.1 size55 hZs sB aB ?_))
    simp only [Act.put]
    obtain ⟨_, _, ka, kb, hb⟩ := ST.out
    obtain ⟨wy, hwy⟩ : ∃ wy : World, ((((ws.alloc (.cells #[.int .u8 0, .int .u8 0, .int .u8 0, .int .u8 0, .int .u8 0, .int .u8 0, .int .u8 0, .int .u8 0, .int .u8 0, .int .u8 0, .int .u8 0, .int .u8 0, .int .u8 0, .int .u8 0, .int .u8 0, .int .u8 0] 55)).alloc (.cells #[.int .u8 0, .int .u8 0, .int .u8 0, .int .u8 0, .int .u8 0, .int .u8 0, .int .u8 0, .int .u8 0, .int .u8 0, .int .u8 0, .int .u8 0, .int .u8 0, .int .u8 0, .int .u8 0, .int .u8 0, .int .u8 0] 55)).setRow ws.heap.size UA).setRow (ws.heap.size + 1) UB) = wy := ⟨_, rfl⟩
    rw [hwy] at ka kb hb ⊢
    replace ka := Lib.hid ka
    replace kb := Lib.hid kb
    replace l := carryS l hb
    replace r23 := carryR r23 hb
    replace r25 := carryR r25 hb
    clear hb hwy ST hZs
    go_wp2_with (first | (refine wpList_loadG rfl _ _ rfl _ rfl (by with_reducible exact ka) Try.underlying55 rfl size55 sA ?_) | (refine wpList_loadG rfl _ _ rfl _ rfl (by with_reducible exact kb) Try.underlying55 rfl size55 sB ?_))
    refine (CX.out _).mono ?_
    rintro e wx ⟨rfl, hb⟩
    replace l := carryS l hb
    replace r23 := carryR r23 hb
    replace r25 := carryR r25 hb
    replace ka := carryB ka hb
    replace kb := carryB kb hb
    clear hb
    obtain ⟨wt, rfl⟩ : ∃ wt : World, wt = wx := ⟨_, rfl⟩
    go_upto_region 31 with (refine wpList_storeNew rfl _ _ _ rfl _ rfl rfl zero16 size55 (byteRow_size _ _) sC aC ?_; intro wy kc hb; replace l := carryS l hb; replace r23 := carryR r23 hb; replace r25 := carryR r25 hb; replace ka := carryB ka hb; replace kb := carryB kb hb; replace kc := Lib.hid kc; clear hb)
    simp only [Act.put]
    have qa : Hid (∀ w', Cls wy w' → Blk w' _ 55 UA) := Lib.hid (fun w' hC => ka.out.below hC ka.out.lt)
    have qb : Hid (∀ w', Cls wy w' → Blk w' _ 55 UB) := Lib.hid (fun w' hC => kb.out.below hC kb.out.lt)
    have qc : Hid (∀ w', Cls wy w' → Blk w' _ 55 UC) := Lib.hid (fun w' hC => kc.out.below hC kc.out.lt)
    refine wp_region_quiet (C := Cls wy) (by kernel_rfl) (by kernel_rfl) (cls_drew wy) ?_
    refine q_val (by kernel_rfl) (.int .i64 d) (fun w' hC => by kernel_rfl) ?_
    refine q_val (by kernel_rfl) (.int .i64 d) (fun w' hC => by kernel_rfl) ?_
    simp only [Act.put, List.setIfInBounds_toArray, List.set_cons_zero, List.set_cons_succ]
    refine q_val (by kernel_rfl) (.bool true) (fun w' hC => by go_simp) ?_
    refine q_val (by kernel_rfl) (.bool true) (fun w' hC => by kernel_rfl) ?_
    simp only [Act.put, List.setIfInBounds_toArray, List.set_cons_zero, List.set_cons_succ]
    refine q_val (by kernel_rfl) (v23) (fun w' hC => by kernel_rfl) ?_
    refine q_val (by kernel_rfl) (v25) (fun w' hC => by kernel_rfl) ?_
    simp only [Act.put, List.setIfInBounds_toArray, List.set_cons_zero, List.set_cons_succ]
    refine q_call (by kernel_rfl) 21 #[v23, v25] (.bool true) (fun w' hC => by kernel_rfl) (fun w' hC => (bytes5 w' (r23.out.below hC (Nat.le_refl _)) (r25.out.below hC (Nat.le_refl _))).mono fun _ _ ⟨he, hb⟩ => ⟨he, Below.trans hC (hb.mono hC.size)⟩) ?_
    refine q_val (by kernel_rfl) (.bool true) (fun w' hC => by kernel_rfl) ?_
    simp only [Act.put, List.setIfInBounds_toArray, List.set_cons_zero, List.set_cons_succ]
    refine q_val (by kernel_rfl) (.bool true) (fun w' hC => by kernel_rfl) ?_
    refine q_loadR (by kernel_rfl) _ _ rfl _ (by kernel_rfl) qc.out Try.underlying55 rfl size55 sC ?_
    simp only [Act.put, List.setIfInBounds_toArray, List.set_cons_zero, List.set_cons_succ]
    refine q_loadR (by kernel_rfl) _ _ rfl _ (by kernel_rfl) qa.out Try.underlying55 rfl size55 sA ?_
    refine q_loadR (by kernel_rfl) _ _ rfl _ (by kernel_rfl) qb.out Try.underlying55 rfl size55 sB ?_
    simp only [Act.put, List.setIfInBounds_toArray, List.set_cons_zero, List.set_cons_succ]
    refine q_call (by kernel_rfl) 33 #[.agg UA, .agg UB] (.agg UC) (fun w' hC => by kernel_rfl) (cls_call CS.out) ?_
    simp only [Act.put, List.setIfInBounds_toArray, List.set_cons_zero, List.set_cons_succ]
    refine q_val (by kernel_rfl) (.bool true) (fun w' hC => exec_eqlU _ _ _ _ rfl (by kernel_rfl) (by kernel_rfl) guardBlock eC w') ?_
    refine q_val (by kernel_rfl) (.bool true) (fun w' hC => by kernel_rfl) ?_
    simp only [Act.put, List.setIfInBounds_toArray, List.set_cons_zero, List.set_cons_succ]
    refine q_val (by kernel_rfl) (.bool true) (fun w' hC => by kernel_rfl) ?_
    refine q_loadR (by kernel_rfl) _ _ rfl _ (by kernel_rfl) qc.out Try.underlying55 rfl size55 sC ?_
    simp only [Act.put, List.setIfInBounds_toArray, List.set_cons_zero, List.set_cons_succ]
    refine q_loadR (by kernel_rfl) _ _ rfl _ (by kernel_rfl) qb.out Try.underlying55 rfl size55 sB ?_
    refine q_call (by kernel_rfl) 32 #[.agg UC, .agg UB] (.agg UA) (fun w' hC => by kernel_rfl) (cls_call CY.out) ?_
    simp only [Act.put, List.setIfInBounds_toArray, List.set_cons_zero, List.set_cons_succ]
    refine q_loadR (by kernel_rfl) _ _ rfl _ (by kernel_rfl) qa.out Try.underlying55 rfl size55 sA ?_
    refine q_val (by kernel_rfl) (.bool true) (fun w' hC => exec_eqlU _ _ _ _ rfl (by kernel_rfl) (by kernel_rfl) guardBlock eA w') ?_
    simp only [Act.put, List.setIfInBounds_toArray, List.set_cons_zero, List.set_cons_succ]
    refine q_val (by kernel_rfl) (.bool true) (fun w' hC => by kernel_rfl) ?_
    refine q_val (by kernel_rfl) (.bool true) (fun w' hC => by kernel_rfl) ?_
    refine wpQuiet_nil ?_
    intro wx hC
    simp only [Act.put, List.setIfInBounds_toArray, List.set_cons_zero, List.set_cons_succ]
    replace l := carryS l hC
    clear hC
    go_wp2_with fail
    go_ret
    exact ⟨rfl, l.out⟩
  · rw [decide_eq_true (show (4096 : Int) < (n : Int) by omega)] at G
    replace G := Lib.hid G
    clear hs
    go_enter Try.func4, Try.ntmps4
    go_wp2_with fail
    refine G.out.mono ?_
    rintro e wx ⟨rfl, hw⟩
    obtain rfl : w = wx := hw.symm
    go_wp2_with fail
    go_ret
    exact ⟨rfl, Below.refl _ _⟩
end Go.Proofs.Ytphfiekhpicpgaa
