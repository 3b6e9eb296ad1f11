/- Contracts: the order of a box, by the program and by the reference, and the walk of the law. No condition. -/
import Derived.Test.YtoijoogonajopaaRows
import Derived.Test.YtoijoogonajopaaLaws
import Derived.Test.YtoijoogonajopaaCycOf
import Derived.Test.YtoijoogonajopaaOrdQ
import Derived.Deep.DeepCutAuto
set_option linter.unusedVariables false
namespace Go.Proofs.Ytoijoogonajopaa
open Go.RowKit Plain
theorem mod_nat {A B R : Nat} (h : A % B = R) : (A : Int).tmod (B : Int) = (R : Int) := by
  rw [Int.tmod_eq_emod_of_nonneg (by omega), ← h]
  push_cast
  rfl
theorem div_nat {A B R : Nat} (h : A / B = R) : (A : Int).tdiv (B : Int) = (R : Int) := by
  rw [Int.tdiv_eq_ediv_of_nonneg (by omega), ← h]
  push_cast
  rfl
theorem div_nat2 {A B R : Nat} (h : A / B = R) : (A : Int) / (B : Int) = (R : Int) := by
  rw [← h]
  push_cast
  rfl
theorem wrap64_ok {m : Nat} (h : m < 9223372036854775808) : wrap64 (m : Int) = m := by
  unfold wrap64
  omega
theorem wrapI_ok {m : Nat} (h : m < 9223372036854775808) : IntKind.i64.wrap (m : Int) = m := by
  rw [IntKind.wrap_i64]
  omega
def ordV (b : Nat → UInt8) : Int := if permB b = true then (ordTo (lenZ b) (flatTo (cycSt b 256).2 256).length : Int) else 0
theorem or_good {b : Nat → UInt8} (h : permB b = true) : ordV b = (ordTo (lenZ b) (flatTo (cycSt b 256).2 256).length : Int) ∧ cyC b = 0 := by
  unfold ordV cyC
  rw [if_pos h, if_pos h]
  exact ⟨rfl, rfl⟩
theorem or_bad {b : Nat → UInt8} (h : permB b = false) : ordV b = 0 ∧ cyC b = 5 := by
  unfold ordV cyC
  rw [h]
  exact ⟨rfl, rfl⟩
theorem ret_pairO {a a' n m : Int} (h : a = a') (h2 : n = m) : Ending.returned (.tuple #[.int .i64 a, .int .i64 n]) = .returned (.tuple #[.int .i64 a', .int .i64 m]) := by rw [h, h2]
theorem ret_i64O {a a' : Int} (h : a = a') : Ending.returned (.int .i64 a) = .returned (.int .i64 a') := by rw [h]
def lenF (b : Nat → UInt8) : Nat → Value := fun i => .int .i64 (lenZ b i : Int)
theorem LL.rowZ {w : World} {B : Nat} {e : TypeId} {v : Value} {b : Nat → UInt8} (h : LL w B e v (flatTo (cycSt b 256).2 256)) : RowF w B e v (flatTo (cycSt b 256).2 256).length (lenF b) :=
  h.rowF.congr fun i hi => by
    show Value.int .i64 _ = Value.int .i64 _
    rw [(lenZ_in b hi).2.2]
theorem flat_len256 {b : Nat → UInt8} : (flatTo (cycSt b 256).2 256).length ≤ 256 := by
  rw [← sort_flat _ (cycSt_le b 256), List.length_mergeSort]
  have := newL_len (cycSt b 256).2
  rw [cycSt_len] at this
  exact this
set_option maxRecDepth 100000 in
set_option maxHeartbeats 400000 in
theorem common (X Y : Nat) (hX : X < 9223372036854775808) (hY : Y < 9223372036854775808) (w : World) :
    Calls Try.prog 25 #[.int .i64 (X : Int), .int .i64 (Y : Int)] w fun e w' => e = .returned (.int .i64 ((Nat.gcd X Y : Nat) : Int)) ∧ Below w.heap.size w w' := by
  obtain ⟨G, hG⟩ : ∃ G, Nat.gcd X Y = G := ⟨_, rfl⟩
  rw [hG]
  go_enter Try.func25, Try.ntmps25
  go_wp2
  go_loopw [0, 1] (fun x y wr => ∃ A B : Nat, x = .int .i64 A ∧ y = .int .i64 B ∧ A < 9223372036854775808 ∧ B < 9223372036854775808 ∧ Nat.gcd A B = G ∧ Below w.heap.size w wr)
    (fun _ y _ => (intOf y).toNat)
  case atStart => exact ⟨X, Y, rfl, rfl, hX, hY, hG, Below.refl _ _⟩
  case round =>
    clear hX hY hG
    obtain ⟨A, B, rfl, rfl, hA, hB, hg, hb⟩ := hrel
    by_cases hB0 : B = 0
    · subst hB0
      have hAG : A = G := by rw [← hg, Nat.gcd_zero_right]
      clear hg hA hB
      have Hb := Lib.hid hb; clear hb; have HAG := Lib.hid hAG; clear hAG
      go_wp2
      go_ret
      exact ⟨ret_i64O (by rw [HAG.out]), Hb.out⟩
    · have e1 : ((B : Int) != 0) = true := by rw [bne_iff_ne]; omega
      have e3 : ((B : Int) == 0) = false := by rw [beq_eq_false_iff_ne]; omega
      have e4 : ¬ (B : Int) = 0 := by omega
      have e5 : 0 < B := by omega
      have hR : A % B < B := Nat.mod_lt _ e5
      have hgr : Nat.gcd B (A % B) = G := by rw [← hg, Nat.gcd_comm A B, Nat.gcd_rec B A, Nat.gcd_comm]
      obtain ⟨R, hR2⟩ : ∃ R, A % B = R := ⟨_, rfl⟩
      have e2 := mod_nat hR2
      rw [hR2] at hR hgr
      clear hR2 hg
      have Hb := Lib.hid hb; clear hb; have Hgr := Lib.hid hgr; clear hgr
      go_upto_region 2 with fail
      go_quiet (fail)
      go_wp2
      go_roundw
      case rel => exact ⟨B, R, rfl, by go_num, hB, by omega, Hgr.out, below_drewN' Hb.out _⟩
      case measure => simp [intOf]; omega
set_option maxRecDepth 100000 in
set_option maxHeartbeats 1600000 in
theorem specOrderOfBox (b : Nat → UInt8) (w : World) :
    Calls Try.prog 6 #[.agg (byteRow 256 b)] w fun e w' => e = .returned (.tuple #[.int .i64 (ordV b), .int .i64 (cyC b)]) ∧ Below w.heap.size w w' := by
  have k0 := Lib.hid (Blk.new w 25 (byteRow 256 b))
  have l := Lib.hid ((Below.refl w.heap.size w).alloc (Nat.le_refl _) (.cells (byteRow 256 b) 25))
  cases hp : permB b with
  | true =>
    obtain ⟨hv, hc⟩ := or_good hp
    have C := fun w : World => l02Is b w
    rw [hp] at C
    have C := Lib.hid C
    clear hp
    have Hv := Lib.hid hv; clear hv; have Hc := Lib.hid hc; clear hc
    go_enter Try.func6, Try.ntmps6
    go_wp2_with (refine wpList_loadR rfl _ _ rfl _ rfl k0.out Try.underlying25 rfl size25 (byteRow_size _ _) ?_)
    refine (C.out _).mono ?_
    rintro e wx ⟨rfl, hb⟩
    have k0 := carryB k0 hb
    have l := carryS l hb
    clear hb
    go_wp2_with (refine wpList_loadR rfl _ _ rfl _ rfl k0.out Try.underlying25 rfl size25 (byteRow_size _ _) ?_)
    refine (l02Cycles b _).mono ?_
    rintro e wx ⟨v, rfl, hl, hb⟩
    have hr := hl.rowZ
    have l := carryS l hb
    have hok := fun k hk => ord_ok b (k := k) hk
    have hzi := fun i hi => lenZ_in b (i := i) hi
    have hn := flat_len256 (b := b)
    have hv := Hv.out
    obtain ⟨n, hn0⟩ : ∃ n, (flatTo (cycSt b 256).2 256).length = n := ⟨_, rfl⟩
    rw [hn0] at hr hn hv
    simp only [hn0] at hok hzi
    obtain ⟨B, hr⟩ : ∃ B, RowF wx B 2 v n (lenF b) := ⟨_, hr⟩
    obtain ⟨a1, cap, rfl, hcap, _, hform⟩ := hr.form
    have RR := Lib.hid hr
    have HF := Lib.hid hform
    have HO := Lib.hid hok
    have HZ := Lib.hid hzi
    clear hl hb hr hform hok hzi hn0
    have Hv := Lib.hid hv; clear hv
    go_wp2_with fail
    go_loopw [6, 5] (fun i p wr => ∃ k : Nat, k ≤ n ∧ i = .int .i64 k ∧ p = .int .i64 (ordTo (lenZ b) k : Int) ∧ RowF wr B 2 (.slice a1 n cap) n (lenF b) ∧ Below w.heap.size w wr)
      (fun i _ _ => n - (intOf i).toNat)
    case atStart => exact ⟨0, by omega, rfl, rfl, RR.out, l.out⟩
    case round =>
      clear RR k0 l
      obtain ⟨k, hk, rfl, rfl, hr, hb⟩ := hrel
      by_cases hkn : k < n
      · have hki : (k : Int) < (n : Int) := by omega
        obtain ⟨g, rfl, _, _⟩ := HF.out.resolve_left (by omega)
        have c0 : wr.cell? ⟨g, k, none⟩ = some (.int .i64 (lenZ b k : Int)) := hr.at_ hkn
        have hz1 := (HZ.out k hkn).1
        have hz2 := (HZ.out k hkn).2.1
        have hP := HO.out k hk
        have hP2 := HO.out (k + 1) (by omega)
        have hlc : ordTo (lenZ b) (k + 1) = Nat.lcm (ordTo (lenZ b) k) (lenZ b k) := rfl
        obtain ⟨P, hP0⟩ : ∃ P, ordTo (lenZ b) k = P := ⟨_, rfl⟩
        obtain ⟨Z, hZ0⟩ : ∃ Z, lenZ b k = Z := ⟨_, rfl⟩
        rw [hP0] at hP hlc
        rw [hZ0] at hlc hz1 hz2 c0
        rw [hP0]
        obtain ⟨G, hG⟩ : ∃ G, Nat.gcd P Z = G := ⟨_, rfl⟩
        have hGp : 0 < G := by rw [← hG]; exact Nat.gcd_pos_of_pos_left _ hP.1
        have hGP : G ≤ P := by rw [← hG]; exact Nat.gcd_le_left _ hP.1
        have hPl := hP.2
        have hPp := hP.1
        have hld := lcm_div hG
        rw [← hlc] at hld
        obtain ⟨Q, hQ⟩ : ∃ Q, P / G = Q := ⟨_, rfl⟩
        rw [hQ] at hld
        obtain ⟨N1, hN1⟩ : ∃ N1, ordTo (lenZ b) (k + 1) = N1 := ⟨_, rfl⟩
        rw [hN1] at hld hP2
        have q1 := div_nat hQ
        have q2 := div_nat2 hQ
        have q3 : (Q : Int) * (Z : Int) = (N1 : Int) := by rw [← hld]; push_cast; rfl
        have q4 := wrap64_ok hP2.2
        have q5 := wrapI_ok hP2.2
        have hQl : Q ≤ P := by rw [← hQ]; exact Nat.div_le_self _ _
        have HG := Lib.hid hG
        have HZ0 := Lib.hid hZ0
        have HN1 := Lib.hid hN1
        clear hP hP2 hlc hP0 hZ0 hG hQ hN1 hld
        have Hr := Lib.hid hr; clear hr; have Hb := Lib.hid hb; clear hb
        go_upto_region 7 with fail
        go_quiet (fail)
        go_wp2
        go_loopw [8, 7] (fun y x wr => ∃ X Y : Nat, x = .int .i64 X ∧ y = .int .i64 Y ∧ X < 9223372036854775808 ∧ Y < 9223372036854775808 ∧ Nat.gcd X Y = G ∧ RowF wr B 2 (.slice (some ⟨g, 0, none⟩) n cap) n (lenF b) ∧ Below w.heap.size w wr)
          (fun y _ _ => (intOf y).toNat)
        case atStart => exact ⟨P, Z, rfl, rfl, hPl, by omega, HG.out, Hr.out.drewN _, below_drewN' Hb.out _⟩
        case round =>
          clear Hr Hb c0
          obtain ⟨X, Y, rfl, rfl, hX, hY, hg, hr, hb⟩ := hrel
          by_cases hY0 : Y = 0
          · subst hY0
            have hXG : X = G := by rw [← hg, Nat.gcd_zero_right]
            subst hXG
            have c0 : wr.cell? ⟨g, k, none⟩ = some (.int .i64 (Z : Int)) := (hr.at_ hkn).trans (by show some (Value.int .i64 (lenZ b k : Int)) = _; rw [HZ0.out])
            have e3 : ((X : Int) == 0) = false := by rw [beq_eq_false_iff_ne]; omega
            have e4 : ¬ (X : Int) = 0 := by omega
            clear hg
            have Hr := Lib.hid hr; clear hr; have Hb := Lib.hid hb; clear hb
            go_upto_region 12 with fail
            go_quiet (fail)
            go_wp2
            go_roundw
            case rel => exact ⟨k + 1, by omega, by go_num, by rw [HN1.out], Hr.out.drewN _, below_drewN' Hb.out _⟩
            case measure => simp [intOf]; omega
          · have hYi : (0 : Int) < (Y : Int) := by omega
            have e3 : ((Y : Int) == 0) = false := by rw [beq_eq_false_iff_ne]; omega
            have e4 : ¬ (Y : Int) = 0 := by omega
            have e5 : 0 < Y := by omega
            have hR : X % Y < Y := Nat.mod_lt _ e5
            have hgr : Nat.gcd Y (X % Y) = G := by rw [← hg, Nat.gcd_comm X Y, Nat.gcd_rec Y X, Nat.gcd_comm]
            obtain ⟨R, hR2⟩ : ∃ R, X % Y = R := ⟨_, rfl⟩
            have e2 := mod_nat hR2
            rw [hR2] at hR hgr
            clear hR2 hg
            have Hr := Lib.hid hr; clear hr; have Hb := Lib.hid hb; clear hb; have Hgr := Lib.hid hgr; clear hgr
            go_wp2
            go_roundw
            case rel => exact ⟨Y, R, by go_num, by go_num, hY, by omega, Hgr.out, Hr.out, Hb.out⟩
            case measure => simp [intOf]; omega
      · have hkn2 : k = n := by omega
        have hki : ¬ (k : Int) < (n : Int) := by omega
        have HK := Lib.hid hkn2
        clear hkn2 hr
        have Hb := Lib.hid hb; clear hb
        go_wp2
        go_ret2
        exact ⟨ret_pairO (by rw [Hv.out, HK.out]) Hc.out.symm, Hb.out⟩
  | false =>
    obtain ⟨hv, hc⟩ := or_bad hp
    have C := fun w : World => l02Is b w
    rw [hp] at C
    have C := Lib.hid C
    clear hp
    have Hv := Lib.hid hv; clear hv; have Hc := Lib.hid hc; clear hc
    go_enter Try.func6, Try.ntmps6
    go_wp2_with (refine wpList_loadR rfl _ _ rfl _ rfl k0.out Try.underlying25 rfl size25 (byteRow_size _ _) ?_)
    refine (C.out _).mono ?_
    rintro e wx ⟨rfl, hb⟩
    have l := carryS l hb
    clear hb
    go_wp2_with fail
    go_ret2
    exact ⟨ret_pairO Hv.out.symm Hc.out.symm, l.out⟩
set_option maxRecDepth 100000 in
set_option maxHeartbeats 1600000 in
theorem implOrderOfBox (b : Nat → UInt8) (w : World) :
    Calls Try.prog 8 #[.agg (byteRow 256 b)] w fun e w' => e = .returned (.tuple #[.int .i64 (ordV b), .int .i64 (cyC b)]) ∧ Below w.heap.size w w' := by
  have k0 := Lib.hid (Blk.new w 25 (byteRow 256 b))
  have l := Lib.hid ((Below.refl w.heap.size w).alloc (Nat.le_refl _) (.cells (byteRow 256 b) 25))
  cases hp : permB b with
  | true =>
    obtain ⟨hv, hc⟩ := or_good hp
    have C := fun w : World => implIsPermutation b w
    rw [hp] at C
    have C := Lib.hid C
    clear hp
    have Hv := Lib.hid hv; clear hv; have Hc := Lib.hid hc; clear hc
    go_enter Try.func8, Try.ntmps8
    go_wp2_with (refine wpList_loadR rfl _ _ rfl _ rfl k0.out Try.underlying25 rfl size25 (byteRow_size _ _) ?_)
    refine (C.out _).mono ?_
    rintro e wx ⟨rfl, hb⟩
    have k0 := carryB k0 hb
    have l := carryS l hb
    clear hb
    go_wp2_with (refine wpList_loadR rfl _ _ rfl _ rfl k0.out Try.underlying25 rfl size25 (byteRow_size _ _) ?_)
    refine (boxCycles b _).mono ?_
    rintro e wx ⟨v, rfl, hl, hb⟩
    have hr := hl.rowZ
    have l := carryS l hb
    have hok := fun k hk => ord_ok b (k := k) hk
    have hzi := fun i hi => lenZ_in b (i := i) hi
    have hn := flat_len256 (b := b)
    have hv := Hv.out
    obtain ⟨n, hn0⟩ : ∃ n, (flatTo (cycSt b 256).2 256).length = n := ⟨_, rfl⟩
    rw [hn0] at hr hn hv
    simp only [hn0] at hok hzi
    obtain ⟨B, hr⟩ : ∃ B, RowF wx B 2 v n (lenF b) := ⟨_, hr⟩
    obtain ⟨a1, cap, rfl, hcap, _, hform⟩ := hr.form
    have RR := Lib.hid hr
    have HF := Lib.hid hform
    have HO := Lib.hid hok
    have HZ := Lib.hid hzi
    clear hl hb hr hform hok hzi hn0
    have Hv := Lib.hid hv; clear hv
    go_wp2_with fail
    go_loopw [13, 4] (fun i p wr => ∃ k : Nat, k ≤ n ∧ i = .int .i64 k ∧ p = .int .i64 (ordTo (lenZ b) k : Int) ∧ RowF wr B 2 (.slice a1 n cap) n (lenF b) ∧ Below w.heap.size w wr)
      (fun i _ _ => n - (intOf i).toNat)
    case atStart => exact ⟨0, by omega, rfl, rfl, RR.out, l.out⟩
    case round =>
      clear RR k0 l
      obtain ⟨k, hk, rfl, rfl, hr, hb⟩ := hrel
      by_cases hkn : k < n
      · have hki : (k : Int) < (n : Int) := by omega
        obtain ⟨g, rfl, hBg, hgs⟩ := HF.out.resolve_left (by omega)
        have c0 : wr.cell? ⟨g, k, none⟩ = some (.int .i64 (lenZ b k : Int)) := hr.at_ hkn
        have hz1 := (HZ.out k hkn).1
        have hz2 := (HZ.out k hkn).2.1
        have hP := HO.out k hk
        have hP2 := HO.out (k + 1) (by omega)
        have hlc : ordTo (lenZ b) (k + 1) = Nat.lcm (ordTo (lenZ b) k) (lenZ b k) := rfl
        obtain ⟨P, hP0⟩ : ∃ P, ordTo (lenZ b) k = P := ⟨_, rfl⟩
        obtain ⟨Z, hZ0⟩ : ∃ Z, lenZ b k = Z := ⟨_, rfl⟩
        rw [hP0] at hP hlc
        rw [hZ0] at hlc hz1 hz2 c0
        rw [hP0]
        have D := common P Z hP.2 (by omega)
        obtain ⟨G, hG⟩ : ∃ G, Nat.gcd P Z = G := ⟨_, rfl⟩
        have hGp : 0 < G := by rw [← hG]; exact Nat.gcd_pos_of_pos_left _ hP.1
        have hld := lcm_div2 hG
        rw [← hlc] at hld
        rw [hG] at D
        obtain ⟨Q, hQ⟩ : ∃ Q, Z / G = Q := ⟨_, rfl⟩
        rw [hQ] at hld
        obtain ⟨N1, hN1⟩ : ∃ N1, ordTo (lenZ b) (k + 1) = N1 := ⟨_, rfl⟩
        rw [hN1] at hld hP2
        have q1 := div_nat hQ
        have q2 := div_nat2 hQ
        have q3 : (P : Int) * (Q : Int) = (N1 : Int) := by rw [← hld]; push_cast; rfl
        have q4 := wrap64_ok hP2.2
        have q5 := wrapI_ok hP2.2
        have hQl : Q ≤ Z := by rw [← hQ]; exact Nat.div_le_self _ _
        have e3 : ((G : Int) == 0) = false := by rw [beq_eq_false_iff_ne]; omega
        have e4 : ¬ (G : Int) = 0 := by omega
        have HN1 := Lib.hid hN1
        have D := Lib.hid D
        clear hP hP2 hlc hP0 hZ0 hG hQ hN1 hld
        have Hr := Lib.hid hr; clear hr; have Hb := Lib.hid hb; clear hb
        go_wp2_with (go_at_call 25; refine (D.out _).mono ?_; rintro e wx ⟨rfl, hbx⟩; have RX := carryR Hr hbx; have LX := carryS Hb hbx; clear hbx)
        go_roundw
        case rel => exact ⟨k + 1, by omega, by go_num, by rw [HN1.out], RX.out, LX.out⟩
        case measure => simp [intOf]; omega
      · have hkn2 : k = n := by omega
        have hki : ¬ (k : Int) < (n : Int) := by omega
        have HK := Lib.hid hkn2
        clear hkn2 hr
        have Hb := Lib.hid hb; clear hb
        go_wp2
        go_ret2
        exact ⟨ret_pairO (by rw [Hv.out, HK.out]) Hc.out.symm, Hb.out⟩
  | false =>
    obtain ⟨hv, hc⟩ := or_bad hp
    have C := fun w : World => implIsPermutation b w
    rw [hp] at C
    have C := Lib.hid C
    clear hp
    have Hv := Lib.hid hv; clear hv; have Hc := Lib.hid hc; clear hc
    go_enter Try.func8, Try.ntmps8
    go_wp2_with (refine wpList_loadR rfl _ _ rfl _ rfl k0.out Try.underlying25 rfl size25 (byteRow_size _ _) ?_)
    refine (C.out _).mono ?_
    rintro e wx ⟨rfl, hb⟩
    have l := carryS l hb
    clear hb
    go_wp2_with fail
    go_ret2
    exact ⟨ret_pairO Hv.out.symm Hc.out.symm, l.out⟩
set_option maxRecDepth 100000 in
set_option maxHeartbeats 800000 in
theorem fnExactOrderOfBox.walk (b : Nat → UInt8) (w : World) :
    Calls Try.prog 3 #[.agg (byteRow 256 b)] w fun e w' => e = .returned (.bool true) ∧ Below w.heap.size w w' := by
  go_enter Try.func3, Try.ntmps3
  have k0 := Lib.hid (Blk.new w 22 (byteRow 256 b))
  have l := Lib.hid ((Below.refl w.heap.size w).alloc (Nat.le_refl _) (.cells (byteRow 256 b) 22))
  go_wp2_with (refine wpList_loadH rfl _ _ rfl _ rfl (by assumption) Try.underlying22 rfl size22 (byteRow_size _ _) ?_)
  refine (toBox _ _).mono ?_
  rintro e wx ⟨rfl, hb⟩
  have k0 := carryB k0 hb
  have l := carryS l hb
  clear hb
  go_wp2_with (refine wpList_loadH rfl _ _ rfl _ rfl (by assumption) Try.underlying22 rfl size22 (byteRow_size _ _) ?_)
  refine (specOrderOfBox _ _).mono ?_
  rintro e wx ⟨rfl, hb⟩
  have k0 := carryB k0 hb
  have l := carryS l hb
  clear hb
  go_wp2_with (refine wpList_loadH rfl _ _ rfl _ rfl (by assumption) Try.underlying22 rfl size22 (byteRow_size _ _) ?_)
  refine (toBox _ _).mono ?_
  rintro e wx ⟨rfl, hb⟩
  have k0 := carryB k0 hb
  have l := carryS l hb
  clear hb
  go_wp2_with (refine wpList_loadH rfl _ _ rfl _ rfl (by assumption) Try.underlying22 rfl size22 (byteRow_size _ _) ?_)
  refine (implOrderOfBox _ _).mono ?_
  rintro e wx ⟨rfl, hb⟩
  have k0 := carryB k0 hb
  have l := carryS l hb
  clear hb
  go_wp2_with (refine wpList_loadH rfl _ _ rfl _ rfl (by assumption) Try.underlying22 rfl size22 (byteRow_size _ _) ?_)
  go_ret
  exact ⟨rfl, l.out⟩
end Go.Proofs.Ytoijoogonajopaa
