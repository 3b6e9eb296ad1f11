/- Contracts: powers of boxes, by the program and by the reference, and the walk of the law. No condition. -/
import Derived.Test.YtoijoogonajopaaRows
import Derived.Test.YtoijoogonajopaaLaws
import Derived.Test.YtoijoogonajopaaPerm
import Derived.Test.YtoijoogonajopaaBox
import Derived.Test.YtoijoogonajopaaRange
set_option linter.unusedVariables false
namespace Go.Proofs.Ytoijoogonajopaa
open Go.RowKit Plain
def unitB : Nat → UInt8 := fun x => UInt8.ofNat x
def PB : Nat → (Nat → UInt8) → (Nat → UInt8) → Nat → (Nat → UInt8)
  | 0, o, _, _ => o
  | f + 1, o, a, k => if k = 0 then o else PB f (if k % 2 = 1 then thenOf o a else o) (thenOf a a) (k / 2)
theorem PB_zero : ∀ f o a, PB f o a 0 = o
  | 0, _, _ => rfl
  | _ + 1, _, _ => by unfold PB; rw [if_pos rfl]
def powOfV (b : Nat → UInt8) (k : Int) : Nat → UInt8 := if inB k 0 1000000 then PB 32 unitB b k.toNat else fun _ => 0
def powOfC (k : Int) : Int := if inB k 0 1000000 then 0 else 2
theorem inB_mil {k : Int} (h : inB k 0 1000000 = true) : ∃ n : Nat, k = n ∧ n ≤ 1000000 := by
  unfold inB at h
  simp only [Bool.and_eq_true, decide_eq_true_eq] at h
  exact ⟨k.toNat, by omega, by omega⟩
theorem ret_pairQ {a b : Array Value} {n m : Int} (h : a = b) (h2 : n = m) : Ending.returned (.tuple #[.agg a, .int .i64 n]) = .returned (.tuple #[.agg b, .int .i64 m]) := by rw [h, h2]

set_option maxRecDepth 100000 in
set_option maxHeartbeats 400000 in
theorem l02Same (w : World) :
    Calls Try.prog 55 #[] w fun e w' => e = .returned (.agg (byteRow 256 unitB)) ∧ Below w.heap.size w w' := by
  go_enter Try.func55, Try.ntmps55
  go_wp2_with (first | (refine wpList_buildZ rfl _ rfl builtBox ?_) | (refine wpList_storeR rfl _ _ _ rfl _ _ rfl rfl ((Blk.newAt (by simp)).eq_ zeroBox) size25 (byteRow_size _ _) (byteRow_size _ _) (byteRow_all _ _) ?_))
  go_loopw [2] (fun i wr => ∃ k : Nat, k ≤ 256 ∧ i = .int .i64 k ∧ Blk wr w.heap.size 25 (byteRow 256 (fun _ => 0)) ∧ Blk wr (w.heap.size + 1) 25 (byteRow 256 (fun i => if i < k then unitB i else 0)) ∧ Below w.heap.size w wr)
    (fun i _ => 256 - (intOf i).toNat)
  case atStart =>
    rw [zeroBox]
    exact ⟨0, by omega, rfl, ((Blk.newAt (w := w) (by simp)).alloc _).rowFar (by omega) _, ((Blk.newAt (w := w.alloc _) (by simp)).setRow _).eq_ (byteRow_none _ _ _), below_row (((Below.refl _ _).alloc (by omega) _).alloc (by simp) _) (by omega) _⟩
  case round =>
    obtain ⟨x, hx, rfl, b0, b1, hb⟩ := hrel
    by_cases hlt : x < 256
    · have hxi : (x : Int) < 256 := by omega
      have c1 := b1.byteAt hlt
      have f1 := b1.frozen x
      have H0 := Lib.hid b0; clear b0; have H1 := Lib.hid b1; clear b1; have Hb := Lib.hid hb; clear hb
      go_wp2
      go_roundw
      case rel => exact ⟨x + 1, by omega, by go_num, H0.out.farC (by omega) _, by have := H1.out.bytePutN x (v := x) hlt; rw [show UInt8.ofNat x = unitB x from rfl, upd_fill] at this; exact this, Hb.out.setCell (p := ⟨w.heap.size + 1, x, none⟩) (by show _ ≤ _ + 1; omega) _⟩
      case measure => simp [intOf]; omega
    · obtain rfl : x = 256 := by omega
      have b1' := b1.eq_ (byteRow_full unitB _ hlt)
      clear b1
      have H0 := Lib.hid b0; clear b0; have H1' := Lib.hid b1'; clear b1'; have Hb := Lib.hid hb; clear hb
      go_wp2_with (first | (refine wpList_loadR rfl _ _ rfl _ rfl H1'.out Try.underlying25 rfl size25 (byteRow_size _ _) ?_) | (refine wpList_storeR rfl _ _ _ rfl _ _ rfl rfl H0.out size25 (byteRow_size _ _) (byteRow_size _ _) (byteRow_all _ _) ?_))
      refine bodyPost_ret (results_cellB rfl _ _ _ rfl (H0.out.setRow _) Try.underlying25 rfl size25 (byteRow_size _ _)) rfl ⟨rfl, below_row Hb.out (by omega) _⟩
set_option maxRecDepth 100000 in
set_option maxHeartbeats 400000 in
theorem unitBox (w : World) :
    Calls Try.prog 28 #[] w fun e w' => e = .returned (.agg (byteRow 256 unitB)) ∧ Below w.heap.size w w' := by
  go_enter Try.func28, Try.ntmps28
  go_wp2_with (first | (refine wpList_buildZ rfl _ rfl builtBox ?_) | (refine wpList_storeR rfl _ _ _ rfl _ _ rfl rfl ((Blk.newAt (by simp)).eq_ zeroBox) size25 (byteRow_size _ _) (byteRow_size _ _) (byteRow_all _ _) ?_))
  go_loopw [4] (fun i wr => ∃ k : Nat, k ≤ 256 ∧ i = .int .i64 k ∧ Blk wr w.heap.size 25 (byteRow 256 (fun _ => 0)) ∧ Blk wr (w.heap.size + 1) 25 (byteRow 256 (fun i => if i < k then unitB i else 0)) ∧ Below w.heap.size w wr)
    (fun i _ => 256 - (intOf i).toNat)
  case atStart =>
    rw [zeroBox]
    exact ⟨0, by omega, rfl, ((Blk.newAt (w := w) (by simp)).alloc _).rowFar (by omega) _, ((Blk.newAt (w := w.alloc _) (by simp)).setRow _).eq_ (byteRow_none _ _ _), below_row (((Below.refl _ _).alloc (by omega) _).alloc (by simp) _) (by omega) _⟩
  case round =>
    obtain ⟨x, hx, rfl, b0, b1, hb⟩ := hrel
    by_cases hlt : x < 256
    · have hxi : (x : Int) < 256 := by omega
      have c1 := b1.byteAt hlt
      have f1 := b1.frozen x
      have H0 := Lib.hid b0; clear b0; have H1 := Lib.hid b1; clear b1; have Hb := Lib.hid hb; clear hb
      go_wp2
      go_roundw
      case rel => exact ⟨x + 1, by omega, by go_num, H0.out.farC (by omega) _, by have := H1.out.bytePutN x (v := x) hlt; rw [show UInt8.ofNat x = unitB x from rfl, upd_fill] at this; exact this, Hb.out.setCell (p := ⟨w.heap.size + 1, x, none⟩) (by show _ ≤ _ + 1; omega) _⟩
      case measure => simp [intOf]; omega
    · obtain rfl : x = 256 := by omega
      have b1' := b1.eq_ (byteRow_full unitB _ hlt)
      clear b1
      have H0 := Lib.hid b0; clear b0; have H1' := Lib.hid b1'; clear b1'; have Hb := Lib.hid hb; clear hb
      go_wp2_with (first | (refine wpList_loadR rfl _ _ rfl _ rfl H1'.out Try.underlying25 rfl size25 (byteRow_size _ _) ?_) | (refine wpList_storeR rfl _ _ _ rfl _ _ rfl rfl H0.out size25 (byteRow_size _ _) (byteRow_size _ _) (byteRow_all _ _) ?_))
      refine bodyPost_ret (results_cellB rfl _ _ _ rfl (H0.out.setRow _) Try.underlying25 rfl size25 (byteRow_size _ _)) rfl ⟨rfl, below_row Hb.out (by omega) _⟩
set_option maxRecDepth 100000 in
set_option maxHeartbeats 1600000 in
theorem implPowerOfBox (b : Nat → UInt8) (k : Int) (w : World) :
    Calls Try.prog 20 #[.agg (byteRow 256 b), .int .i64 k] w fun e w' => e = .returned (.tuple #[.agg (byteRow 256 (powOfV b k)), .int .i64 (powOfC k)]) ∧ Below w.heap.size w w' := by
  have k0 := Lib.hid ((Blk.new w 25 (byteRow 256 b)).alloc (.cells Try.zeroCells25 25))
  have k1 := Lib.hid ((Blk.newAt (t := 25) (cs := Try.zeroCells25) (w := w.alloc (.cells (byteRow 256 b) 25)) (n := w.heap.size + 1) (by simp)).eq_ zeroBox)
  have l := Lib.hid ((((Below.refl w.heap.size w).alloc (Nat.le_refl _) (.cells (byteRow 256 b) 25)).alloc (by simp) (.cells Try.zeroCells25 25)))
  have c := inRange k 0 1000000
  cases hi : inB k 0 1000000 with
  | false =>
    rw [hi] at c
    have C := Lib.hid c
    have hv : powOfV b k = fun _ => 0 := by unfold powOfV; rw [hi]; rfl
    have hc : powOfC k = 2 := by unfold powOfC; rw [hi]; rfl
    clear c hi
    have Hv := Lib.hid hv; clear hv; have Hc := Lib.hid hc; clear hc
    go_enter Try.func20, Try.ntmps20
    go_wp2_with (first | (go_at_call 27; refine (C.out _).mono ?_; rintro e wx ⟨rfl, rfl⟩) | (refine wpList_buildZ rfl _ rfl builtBox ?_) | (refine wpList_storeR rfl _ _ _ rfl _ _ rfl rfl k1.out size25 (byteRow_size _ _) (byteRow_size _ _) (byteRow_all _ _) ?_))
    refine bodyPost_ret (results_cellB_tmp rfl _ _ _ rfl (k1.out.setRow _) Try.underlying25 rfl size25 (byteRow_size _ _)) rfl ⟨ret_pairQ (by rw [Hv.out]) Hc.out.symm, below_row l.out (by omega) _⟩
  | true =>
    rw [hi] at c
    have C := Lib.hid c
    clear c
    obtain ⟨q, rfl, hq⟩ := inB_mil hi
    have hv : powOfV b q = PB 32 unitB b q := by unfold powOfV; rw [hi]; rfl
    have hc : powOfC q = 0 := by unfold powOfC; rw [hi]; rfl
    clear hi
    have Hv := Lib.hid hv; clear hv; have Hc := Lib.hid hc; clear hc
    go_enter Try.func20, Try.ntmps20
    go_wp2_with (go_at_call 27; refine (C.out _).mono ?_; rintro e wx ⟨rfl, rfl⟩)
    refine (unitBox _).mono ?_
    rintro e wx ⟨rfl, hb⟩
    have k0 := carryB k0 hb
    have k1 := carryB k1 hb
    have l := carryS l hb
    clear hb
    obtain ⟨ws, hws⟩ : ∃ ws : World, ws = wx := ⟨_, rfl⟩
    subst hws
    have hgx := k1.out.lt
    go_wp2_with ((refine wpList_storeNew rfl _ _ _ rfl _ rfl rfl zeroBox size25 (byteRow_size _ _) (byteRow_size _ _) (byteRow_all _ _) ?_; intro wy kr hb; have k0 := carryB k0 hb; have k1 := carryB k1 hb; have l := carryS l hb; have kr := Lib.hid kr; clear hb))
    simp only [Act.put]
    go_loopw [1] (fun z wr => ∃ (r f : Nat) (o a : Nat → UInt8), r < 2 ^ f ∧ f ≤ 32 ∧ z = .int .i64 r ∧ Blk wr w.heap.size 25 (byteRow 256 a) ∧ Blk wr (w.heap.size + 1) 25 (byteRow 256 (fun _ => 0)) ∧ Blk wr ws.heap.size 25 (byteRow 256 o) ∧ Below w.heap.size w wr ∧ PB f o a r = PB 32 unitB b q) (fun z _ => (intOf z).toNat)
    case atStart => exact ⟨q, 32, unitB, b, by omega, by omega, rfl, k0.out, k1.out, kr.out, l.out, rfl⟩
    case round =>
      obtain ⟨r, f, o, a, hr, hf, rfl, b0, b1, b2, hb, he⟩ := hrel
      clear k0 k1 kr l
      by_cases h0 : r = 0
      · subst h0
        have he2 : PB 32 unitB b q = o := by rw [← he, PB_zero]
        clear he
        have He2 := Lib.hid he2; clear he2; have H0 := Lib.hid b0; clear b0; have H1 := Lib.hid b1; clear b1; have H2 := Lib.hid b2; clear b2; have Hb := Lib.hid hb; clear hb
        go_wp2_with (first | (refine wpList_loadR rfl _ _ rfl _ rfl H2.out Try.underlying25 rfl size25 (byteRow_size _ _) ?_) | (refine wpList_storeR rfl _ _ _ rfl _ _ rfl rfl H1.out size25 (byteRow_size _ _) (byteRow_size _ _) (byteRow_all _ _) ?_))
        refine bodyPost_ret (results_cellB_tmp rfl _ _ _ rfl (H1.out.setRow _) Try.underlying25 rfl size25 (byteRow_size _ _)) rfl ⟨ret_pairQ (by rw [Hv.out, He2.out]) Hc.out.symm, below_row Hb.out (by omega) _⟩
      · have hr0 : (0 : Int) < r := by omega
        obtain ⟨g, rfl⟩ : ∃ g, f = g + 1 := ⟨f - 1, by
          have : f ≠ 0 := fun e => by subst e; omega
          omega⟩
        have hr2 : r / 2 < 2 ^ g := by rw [Nat.pow_succ] at hr; omega
        have hr256 : r < 4294967296 := Nat.lt_of_lt_of_le hr (show 2 ^ (g + 1) ≤ 2 ^ 32 from Nat.pow_le_pow_right (by omega) hf)
        have he2 : PB g (if r % 2 = 1 then thenOf o a else o) (thenOf a a) (r / 2) = PB 32 unitB b q := by
          rw [← he]
          show _ = if r = 0 then _ else _
          rw [if_neg h0]
        clear he hr
        have k0 := Lib.hid b0
        have k1 := Lib.hid b1
        have k2 := Lib.hid b2
        have l := Lib.hid hb
        clear b0 b1 b2 hb
        by_cases hp : r % 2 = 1
        · have e1 : ((r : Int) % 2 == 1) = true := by rw [beq_iff_eq]; omega
          rw [if_pos hp] at he2
          have He2 := Lib.hid he2; clear he2; have Hr2 := Lib.hid hr2; clear hr2
          go_wp2_with (refine wpList_loadH rfl _ _ rfl _ rfl (by assumption) Try.underlying25 rfl size25 (byteRow_size _ _) ?_)
          refine (implComposeBoxes _ _ _).mono ?_
          rintro e wx ⟨rfl, hb⟩
          have k0 := carryB k0 hb
          have k1 := carryB k1 hb
          have k2 := carryB k2 hb
          have l := carryS l hb
          clear hb
          go_wp2_with (first | (refine wpList_loadH rfl _ _ rfl _ rfl (by assumption) Try.underlying25 rfl size25 (byteRow_size _ _) ?_) | (refine wpList_storeR rfl _ _ _ rfl _ _ rfl rfl k2.out size25 (byteRow_size _ _) (byteRow_size _ _) (byteRow_all _ _) ?_; have k0 := Lib.hid (k0.out.rowFar (show w.heap.size ≠ ws.heap.size by omega) (byteRow 256 (thenOf o a))); have k1 := Lib.hid (k1.out.rowFar (show w.heap.size + 1 ≠ ws.heap.size by omega) (byteRow 256 (thenOf o a))); have k2 := Lib.hid (k2.out.setRow (byteRow 256 (thenOf o a))); have l := Lib.hid (below_row l.out (show w.heap.size ≤ ws.heap.size by omega) (byteRow 256 (thenOf o a)))))
          refine (implComposeBoxes _ _ _).mono ?_
          rintro e wx ⟨rfl, hb⟩
          have k0 := carryB k0 hb
          have k1 := carryB k1 hb
          have k2 := carryB k2 hb
          have l := carryS l hb
          clear hb
          go_wp2_with (refine wpList_storeR rfl _ _ _ rfl _ _ rfl rfl k0.out size25 (byteRow_size _ _) (byteRow_size _ _) (byteRow_all _ _) ?_)
          go_roundw
          case rel => exact ⟨r / 2, g, thenOf o a, thenOf a a, Hr2.out, by omega, by go_num, k0.out.setRow _, k1.out.rowFar (by omega) _, k2.out.rowFar (by omega) _, below_row l.out (by omega) _, He2.out⟩
          case measure => simp [intOf]; omega
        · have e1 : ((r : Int) % 2 == 1) = false := by rw [beq_eq_false_iff_ne]; omega
          rw [if_neg hp] at he2
          have He2 := Lib.hid he2; clear he2; have Hr2 := Lib.hid hr2; clear hr2
          go_wp2_with (refine wpList_loadH rfl _ _ rfl _ rfl (by assumption) Try.underlying25 rfl size25 (byteRow_size _ _) ?_)
          refine (implComposeBoxes _ _ _).mono ?_
          rintro e wx ⟨rfl, hb⟩
          have k0 := carryB k0 hb
          have k1 := carryB k1 hb
          have k2 := carryB k2 hb
          have l := carryS l hb
          clear hb
          go_wp2_with (refine wpList_storeR rfl _ _ _ rfl _ _ rfl rfl k0.out size25 (byteRow_size _ _) (byteRow_size _ _) (byteRow_all _ _) ?_)
          go_roundw
          case rel => exact ⟨r / 2, g, o, thenOf a a, Hr2.out, by omega, by go_num, k0.out.setRow _, k1.out.rowFar (by omega) _, k2.out.rowFar (by omega) _, below_row l.out (by omega) _, He2.out⟩
          case measure => simp [intOf]; omega
end Go.Proofs.Ytoijoogonajopaa
