/- Contracts: the linearity of a box, by the program and by the reference, and the walk of the law. No condition. -/
import Derived.Test.YtphfiekhpicpgaaRows
import Derived.Test.YtphfiekhpicpgaaLaws
import Derived.Test.YtphfiekhpicpgaaLin
import Derived.BigRegion
set_option linter.unusedVariables false
namespace Go.Proofs.Ytphfiekhpicpgaa
open Go.RowKit Plain
theorem sizeI1 : (Try.prog.info? 2).map (·.size) = some 1 := by kernel_rfl
theorem sizeL : (Try.prog.info? 92).map (·.size) = some 256 := by kernel_rfl
theorem zeroL : Try.zeroCells92 = longRow 256 (fun _ => 0) := by kernel_rfl
theorem builtL : Try.prog.built 92 [] = some (longRow 256 (fun _ => 0)) := by kernel_rfl
set_option maxRecDepth 100000 in
set_option maxHeartbeats 1600000 in
theorem specLinearityOf (b : Nat → UInt8) (w : World) :
    Calls Try.prog 45 #[.agg (byteRow 256 b)] w fun e w' => e = .returned (.int .i64 (linTo b 255)) ∧ Below w.heap.size w w' := by
  go_enter Try.func45, Try.ntmps45
  go_wp2
  go_loopw [4, 3] (fun i m wr => ∃ k : Nat, k ≤ 255 ∧ i = .int .i64 ((k : Int) + 1) ∧ m = .int .i64 (linTo b k) ∧ Blk wr w.heap.size 27 (byteRow 256 b) ∧ Below w.heap.size w wr)
    (fun i _ _ => 257 - (intOf i).toNat)
  case atStart => exact ⟨0, by omega, rfl, rfl, Blk.new w _ _, (Below.refl _ _).alloc (by omega) _⟩
  case round =>
    obtain ⟨k, hk, rfl, rfl, b0, hb⟩ := hrel
    by_cases hlt : k < 255
    · have hki : (k : Int) + 1 < 256 := by omega
      have ek := u8_nat (k := k + 1) (by omega)
      have ek2 : ((UInt8.ofNat (k + 1)).toNat : Int) = (k : Int) + 1 := by rw [← ek]; rfl
      have c := l02Biases b (UInt8.ofNat (k + 1)) wr
      rw [ek2] at c
      have hst : linTo b (k + 1) = linRun (linTo b k) (wal b (UInt8.ofNat (k + 1)) 8) 256 := rfl
      have hF := wal_256 b (UInt8.ofNat (k + 1)) (Nat.le_refl 8)
      obtain ⟨F, hF0⟩ : ∃ F, wal b (UInt8.ofNat (k + 1)) 8 = F := ⟨_, rfl⟩
      rw [hF0] at c hst
      simp only [hF0] at hF
      have C := Lib.hid c
      have HF := Lib.hid hF
      clear c ek ek2 hF hF0
      have Hst := Lib.hid hst; clear hst
      have k0 := Lib.hid b0
      have l := Lib.hid hb
      clear b0 hb
      go_wp2_with (first | (refine wpList_loadH rfl _ _ rfl _ rfl (by assumption) Try.underlying27 rfl size27 (byteRow_size _ _) ?_) | (go_at_call 80; refine C.out.mono ?_; rintro e wx ⟨v, rfl, hr, hb⟩; have k0 := carryB k0 hb; have l := carryS l hb; have rr := Lib.hid hr; clear hr hb))
      obtain ⟨a1, c1, rfl, hc1, hm1, f1⟩ := rr.out.form
      obtain ⟨g1, rfl, _, _⟩ := f1.resolve_left (by omega)
      clear f1
      obtain ⟨B, hB⟩ : ∃ B, wr.heap.size + 1 = B := ⟨_, rfl⟩
      rw [hB] at rr
      go_loopw [6, 3] (fun i m wq => ∃ j : Nat, j ≤ 256 ∧ i = .int .i64 j ∧ m = .int .i64 (linRun (linTo b k) F j) ∧ RowF wq B 2 (.slice (some ⟨g1, 0, none⟩) 256 c1) 256 (lng F) ∧ Blk wq w.heap.size 27 (byteRow 256 b) ∧ Below w.heap.size w wq) (fun i _ _ => 256 - (intOf i).toNat)
      case atStart => exact ⟨0, by omega, rfl, rfl, rr.out, k0.out, l.out⟩
      case round =>
        clear rr k0 l
        obtain ⟨j, hj, rfl, rfl, hr, b0, hb⟩ := hrel
        by_cases hjl : j < 256
        · have hji : (j : Int) < 256 := by omega
          have em : linRun (linTo b k) F (j + 1) = max (linRun (linTo b k) F j) (max (F j) (-(F j))) := rfl
          have hf1 := (HF.out j).1
          have hf2 := (HF.out j).2
          have c1 := hr.at_ hjl
          obtain ⟨x, hx⟩ : ∃ x, F j = x := ⟨_, rfl⟩
          rw [hx] at em hf1 hf2
          have c2 := c1.trans (show some (Value.int .i64 (F j)) = some (.int .i64 x) by rw [hx])
          clear c1 hx
          have Hr := Lib.hid hr; clear hr; have H0 := Lib.hid b0; clear b0; have Hb := Lib.hid hb; clear hb; have Hm := Lib.hid em; clear em
          go_upto_region 9 with fail
          go_quiet (fail)
          go_wp2
          go_roundw
          case rel => exact ⟨j + 1, by omega, by go_num, by rw [Hm.out], Hr.out.drewN _, H0.out.drewN _, below_drewN' Hb.out _⟩
          case measure => simp [intOf]; omega
        · obtain rfl : j = 256 := by omega
          have H0 := Lib.hid b0; clear b0; have Hb := Lib.hid hb; clear hb
          go_wp2
          go_roundw
          case rel => exact ⟨k + 1, by omega, by go_num, by rw [Hst.out], H0.out, Hb.out⟩
          case measure => simp [intOf]; omega
    · obtain rfl : k = 255 := by omega
      have H0 := Lib.hid b0; clear b0; have Hb := Lib.hid hb; clear hb
      go_wp2
      go_ret
      exact ⟨rfl, Hb.out⟩
set_option maxRecDepth 100000 in
set_option maxHeartbeats 1600000 in
theorem implLinearityOf (b : Nat → UInt8) (w : World) :
    Calls Try.prog 43 #[.agg (byteRow 256 b)] w fun e w' => e = .returned (.int .i64 (linTo b 255)) ∧ Below w.heap.size w w' := by
  go_enter Try.func43, Try.ntmps43
  go_wp2
  go_loopw [4, 3] (fun i m wr => ∃ k : Nat, k ≤ 255 ∧ i = .int .i64 ((k : Int) + 1) ∧ m = .int .i64 (linTo b k) ∧ Blk wr w.heap.size 27 (byteRow 256 b) ∧ Below w.heap.size w wr)
    (fun i _ _ => 257 - (intOf i).toNat)
  case atStart => exact ⟨0, by omega, rfl, rfl, Blk.new w _ _, (Below.refl _ _).alloc (by omega) _⟩
  case round =>
    obtain ⟨k, hk, rfl, rfl, b0, hb⟩ := hrel
    by_cases hlt : k < 255
    · have hki : (k : Int) + 1 < 256 := by omega
      obtain ⟨v, hv⟩ : ∃ v, UInt8.ofNat (k + 1) = v := ⟨_, rfl⟩
      have ek : (k : Int) + 1 = (v.toNat : Int) := by rw [← hv, ← u8_nat (k := k + 1) (by omega)]; rfl
      have hst : linTo b (k + 1) = linRun (linTo b k) (wal b v 8) 256 := by rw [← hv]; rfl
      have hk0 := b0.lt
      have hksz : w.heap.size ≤ wr.heap.size := hb.size
      have k0 := Lib.hid b0
      have l := Lib.hid hb
      have HE := Lib.hid ek
      clear b0 hb hv ek
      have Hst := Lib.hid hst; clear hst
      obtain ⟨ws, hws⟩ : ∃ ws : World, ws = wr := ⟨_, rfl⟩
      subst hws
      go_wp2_with (first | (refine wpList_buildZ rfl _ rfl builtL ?_) | (refine wpList_loadR rfl _ _ rfl _ rfl k0.out Try.underlying27 rfl size27 (byteRow_size _ _) ?_) | (refine wpList_storeNew rfl _ _ _ rfl _ rfl rfl zeroL sizeL (longRow_size _ _) (longRow_size _ _) (longRow_all _ _) ?_; intro wy kr hb; have k0 := carryB k0 hb; have l := carryS l hb; have kr := Lib.hid kr; clear hb))
      try simp only [Act.put]
      go_loopw [18] (fun i wr => ∃ x : Nat, x ≤ 256 ∧ i = .int .i64 x ∧ Blk wr ws.heap.size 92 (longRow 256 (fun i => if i < x then wal b v 0 i else 0)) ∧ Blk wr w.heap.size 27 (byteRow 256 b) ∧ Below w.heap.size w wr)
        (fun i _ => 256 - (intOf i).toNat)
      case atStart => exact ⟨0, by omega, rfl, kr.out.eq_ (longRow_congr fun i _ => (if_neg (Nat.not_lt_zero i)).symm), k0.out, l.out⟩
      case round =>
        clear kr k0 l
        obtain ⟨x, hx, rfl, b1, b0, hb⟩ := hrel
        by_cases hxt : x < 256
        · have hxi : (x : Int) < 256 := by omega
          have ix := fun (w : World) => run_index_row (w := w) .i64 Try.underlying27 sizeU1 (.inl Try.underlying5) hxt (byteRow_at b hxt)
          have c1 := b1.longAt hxt
          have f1 := b1.frozen x
          have ea := b_and v (b x)
          have hw0 : wal b v 0 x = 1 - 2 * oddI (v &&& b x) := by
            show 1 - 2 * oddI (b x &&& v) = _
            rw [and_comm8]
          obtain ⟨p, hp⟩ : ∃ p, v &&& b x = p := ⟨_, rfl⟩
          rw [hp, ← HE.out] at ea
          rw [hp] at hw0
          have ho := implOdd p
          have hor := oddI_or p
          obtain ⟨d, hd⟩ : ∃ d, oddI p = d := ⟨_, rfl⟩
          rw [hd] at ho hor hw0
          have hd0 : 0 ≤ d := by omega
          have hd1 : d ≤ 1 := by omega
          have HO := Lib.hid ho
          clear ho hp hd hor
          have H1 := Lib.hid b1; clear b1; have H0 := Lib.hid b0; clear b0; have Hb := Lib.hid hb; clear hb; have Hw0 := Lib.hid hw0; clear hw0
          go_wp2_with (go_at_call 78; refine (HO.out _).mono ?_; rintro e wx ⟨rfl, rfl⟩)
          go_roundw
          case rel => exact ⟨x + 1, by omega, by go_num, (H1.out.longPut x (1 - 2 * d)).eq_ (by rw [← Hw0.out, upd_fill]), H0.out.farC (by omega) _, Hb.out.setCell (p := ⟨ws.heap.size, x, none⟩) (by show _ ≤ ws.heap.size; omega) _⟩
          case measure => simp [intOf]; omega
        · obtain rfl : x = 256 := by omega
          have b1' := b1.eq_ (longRow_full (wal b v 0) _ hxt)
          clear b1
          have H1' := Lib.hid b1'; clear b1'; have H0 := Lib.hid b0; clear b0; have Hb := Lib.hid hb; clear hb
          obtain ⟨wo, rfl⟩ : ∃ wo : World, wo = wr := ⟨_, rfl⟩
          go_wp2
          go_loopw [8] (fun s wr => ∃ t q : Nat, t ≤ 8 ∧ q = 2 ^ t ∧ s = .int .i64 q ∧ Blk wr ws.heap.size 92 (longRow 256 (wal b v t)) ∧ Blk wr w.heap.size 27 (byteRow 256 b) ∧ Below w.heap.size w wr)
            (fun s _ => 256 - (intOf s).toNat)
          case atStart => exact ⟨0, 1, by omega, rfl, rfl, H1'.out, H0.out, Hb.out⟩
          case round =>
            clear H1' H0 Hb
            obtain ⟨t, q, ht, hq, rfl, b1, b0, hb⟩ := hrel
            by_cases h8 : t < 8
            · have hp1 : 1 ≤ q := by rw [hq]; exact (pow_small h8).1
              have hp2 : q ≤ 128 := by rw [hq]; exact (pow_small h8).2
              have hqi1 : (q : Int) < 256 := by omega
              have Hq := Lib.hid hq; clear hq; have H1 := Lib.hid b1; clear b1; have H0 := Lib.hid b0; clear b0; have Hb := Lib.hid hb; clear hb
              obtain ⟨wo, rfl⟩ : ∃ wo : World, wo = wr := ⟨_, rfl⟩
              go_wp2
              go_loopw [36] (fun j wr => ∃ k : Nat, k ≤ 256 ∧ j = .int .i64 k ∧ Blk wr ws.heap.size 92 (longRow 256 (bfTo q (wal b v t) k)) ∧ Blk wr w.heap.size 27 (byteRow 256 b) ∧ Below w.heap.size w wr)
                (fun j _ => 256 - (intOf j).toNat)
              case atStart => exact ⟨0, by omega, rfl, H1.out.eq_ (longRow_congr fun i _ => (bfTo_zero _ (by omega) i).symm), H0.out, Hb.out⟩
              case round =>
                clear H1 H0 Hb
                obtain ⟨k, hk, rfl, b1, b0, hb⟩ := hrel
                by_cases hlt : k < 256
                · have hki : (k : Int) < 256 := by omega
                  have ea := long_and k q (by omega) (by omega)
                  by_cases hz0 : k &&& q = 0
                  · have hbf := bit_facts0 t h8 k hlt (by rw [← Hq.out]; exact hz0)
                    rw [← Hq.out] at hbf
                    obtain ⟨f1, f2, f3⟩ := hbf
                    have e0 : bits .and .i64 (k : Int) (q : Int) = 0 := by rw [ea, hz0]; rfl
                    obtain ⟨x, hx⟩ : ∃ x, wal b v t k = x := ⟨_, rfl⟩
                    obtain ⟨y, hy⟩ : ∃ y, wal b v t (k + q) = y := ⟨_, rfl⟩
                    have hxb := wal_256 b v (Nat.le_of_lt h8) k
                    have hyb := wal_256 b v (Nat.le_of_lt h8) (k + q)
                    have hput := fun i => bfTo_hit (wal b v t) hz0 f3 (by omega) (fun i hi => and_ge Hq.out hi) i
                    have c1 := b1.longAt hlt
                    have c2 := b1.longAt f1
                    rw [bfTo_at _ hz0, hx] at c1
                    rw [bfTo_up _ f3, hy] at c2
                    rw [hx, hy] at hput
                    rw [hx] at hxb
                    rw [hy] at hyb
                    have hx1 := hxb.1
                    have hx2 := hxb.2
                    have hy1 := hyb.1
                    have hy2 := hyb.2
                    have z1 := b1.frozen k
                    have z2 := b1.frozen (k + q)
                    obtain ⟨r, hr⟩ : ∃ r, k + q = r := ⟨_, rfl⟩
                    have eo := long_or k q (by omega) (by omega)
                    rw [f2, hr] at eo
                    have hri : (r : Int) < 256 := by omega
                    have hkr : k ≠ r := by omega
                    rw [hr] at c2 z2 hput
                    clear ea hz0 f2 f3 hx hy hxb hyb hr
                    have H1 := Lib.hid b1; clear b1; have H0 := Lib.hid b0; clear b0; have Hb := Lib.hid hb; clear hb; have Hput := Lib.hid hput; clear hput
                    go_upto_region 18 with fail
                    go_region
                    go_wp2
                    go_roundw
                    case rel => exact ⟨k + 1, by omega, by go_num, ((H1.out.longPut k (x + y)).longPut r (x - y)).eq_ (longRow_congr fun i _ => Hput.out i), (H0.out.farC (by omega) _).farC (by omega) _, ((Hb.out.setCell (p := ⟨ws.heap.size, k, none⟩) (by show _ ≤ ws.heap.size; omega) _).setCell (p := ⟨ws.heap.size, r, none⟩) (by show _ ≤ ws.heap.size; omega) _).drew⟩
                    case measure => simp [intOf]; omega
                  · have e0 : (bits .and .i64 (k : Int) (q : Int) == 0) = false := by
                      rw [ea, beq_eq_false_iff_ne]
                      omega
                    have b1' := b1.eq_ (longRow_congr (c := bfTo q (wal b v t) (k + 1)) fun i hi => bfTo_miss _ hz0 (fun i hi h => and_sub Hq.out h8 hi h) hi)
                    clear ea hz0 b1
                    have H1' := Lib.hid b1'; clear b1'; have H0 := Lib.hid b0; clear b0; have Hb := Lib.hid hb; clear hb
                    go_wp2
                    go_roundw
                    case rel => exact ⟨k + 1, by omega, by go_num, H1'.out, H0.out, Hb.out⟩
                    case measure => simp [intOf]; omega
                · obtain rfl : k = 256 := by omega
                  have b1' := b1.eq_ (longRow_congr (c := wal b v (t + 1)) fun i hi => by rw [bfTo_end _ hi, Hq.out]; rfl)
                  clear b1
                  have H1' := Lib.hid b1'; clear b1'; have H0 := Lib.hid b0; clear b0; have Hb := Lib.hid hb; clear hb
                  go_wp2
                  go_roundw
                  case rel => exact ⟨t + 1, q * 2, by omega, by rw [Hq.out, Nat.pow_succ], by go_num, H1'.out, H0.out, Hb.out⟩
                  case measure => simp [intOf]; omega
            · obtain rfl : t = 8 := by omega
              obtain rfl : q = 256 := hq
              have hF := wal_256 b v (Nat.le_refl 8)
              obtain ⟨F, hF0⟩ : ∃ F, wal b v 8 = F := ⟨_, rfl⟩
              have hst := Hst.out
              rw [hF0] at b1 hst
              simp only [hF0] at hF
              have HF := Lib.hid hF
              clear hF hF0
              have H1 := Lib.hid b1; clear b1; have H0 := Lib.hid b0; clear b0; have Hb := Lib.hid hb; clear hb; have Hst := Lib.hid hst; clear hst
              obtain ⟨wo, rfl⟩ : ∃ wo : World, wo = wr := ⟨_, rfl⟩
              go_wp2_with (refine wpList_loadR rfl _ _ rfl _ rfl H1.out Try.underlying92 rfl sizeL (longRow_size _ _) ?_)
              go_loop [69, 3] (fun i m => ∃ j : Nat, j ≤ 256 ∧ i = .int .i64 j ∧ m = .int .i64 (linRun (linTo b k) F j)) (fun i _ => 256 - (intOf i).toNat)
              case atStart => exact ⟨0, by omega, rfl, rfl⟩
              case round =>
                obtain ⟨j, hj, rfl, rfl⟩ := hrel
                by_cases hjl : j < 256
                · have hji : (j : Int) < 256 := by omega
                  have ix := fun (w : World) => run_index_row (w := w) .i64 Try.underlying92 sizeI1 (.inr (.inl Try.underlying2)) hjl (longRow_at F hjl)
                  have em : linRun (linTo b k) F (j + 1) = max (linRun (linTo b k) F j) (max (F j) (-(F j))) := rfl
                  have hf1 := (HF.out j).1
                  have hf2 := (HF.out j).2
                  obtain ⟨x, hx⟩ : ∃ x, F j = x := ⟨_, rfl⟩
                  rw [hx] at em hf1 hf2 ix
                  clear hx
                  have Hm := Lib.hid em; clear em
                  go_wp2
                  go_round
                  case rel => exact ⟨j + 1, by omega, by go_num, by rw [Hm.out]; exact congrArg _ (by rw [max_if, max_if]; omega)⟩
                  case measure => simp [intOf]; omega
                · obtain rfl : j = 256 := by omega
                  go_wp2
                  go_roundw
                  case rel => exact ⟨k + 1, by omega, by go_num, by rw [Hst.out], H0.out, Hb.out⟩
                  case measure => simp [intOf]; omega
    · obtain rfl : k = 255 := by omega
      have H0 := Lib.hid b0; clear b0; have Hb := Lib.hid hb; clear hb
      go_wp2
      go_ret
      exact ⟨rfl, Hb.out⟩
end Go.Proofs.Ytphfiekhpicpgaa
