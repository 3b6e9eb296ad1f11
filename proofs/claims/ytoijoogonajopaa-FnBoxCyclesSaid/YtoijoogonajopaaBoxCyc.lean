/- The walk of the law on the cycles of boxes. No condition. -/
import Derived.Test.YtoijoogonajopaaRows
import Derived.Test.YtoijoogonajopaaCycR
import Derived.Test.YtoijoogonajopaaDrawB
import Derived.Test.YtoijoogonajopaaLike
import Derived.Test.YtoijoogonajopaaOrd
import Derived.Test.YtoijoogonajopaaFixed
import Derived.Test.YtoijoogonajopaaEqA
set_option linter.unusedVariables false
namespace Go.Proofs.Ytoijoogonajopaa
open Go.RowKit Plain
theorem PB_it : ∀ (f : Nat) (o a : Nat → UInt8) (k : Nat), k < 2 ^ f → ∀ x, (PB f o a k x).toNat = it a k (o x).toNat
  | 0, o, a, k, hk, x => by
    obtain rfl : k = 0 := by have : (2 : Nat) ^ 0 = 1 := rfl; omega
    rfl
  | f + 1, o, a, k, hk, x => by
    unfold PB
    by_cases h0 : k = 0
    · subst h0; rfl
    · rw [if_neg h0, PB_it f _ _ (k / 2) (by rw [Nat.pow_succ] at hk; omega)]
      have two : ∀ m y, it (thenOf a a) m y = it a (2 * m) y := by
        intro m
        induction m with
        | zero => intro y; rfl
        | succ m ih =>
          intro y
          show it (thenOf a a) m (a (a y).toNat).toNat = _
          rw [ih, show 2 * (m + 1) = 2 * m + 1 + 1 by omega]
          rfl
      rw [two]
      by_cases h1 : k % 2 = 1
      · rw [if_pos h1]
        conv => rhs; rw [show k = 2 * (k / 2) + 1 by omega]
        rfl
      · rw [if_neg h1]
        conv => rhs; rw [show k = 2 * (k / 2) by omega]
theorem pow_unit {b : Nat → UInt8} {k : Nat} (hk : k < 2 ^ 32) (h : ∀ y, y < 256 → it b k y = y) : byteRow 256 (PB 32 unitB b k) = byteRow 256 unitB := byteRow_congr fun i hi => by
  apply UInt8.toNat_inj.1
  rw [PB_it 32 _ _ k hk]
  have : (unitB i).toNat = i := toNat_ofNat_lt hi
  rw [this]
  exact h i hi
theorem fix_len (b : Nat → UInt8) : ∀ k, (fixTo b k).length = fixN b k
  | 0 => rfl
  | k + 1 => by
    unfold fixTo fixN
    split
    · simp [fix_len b k]
    · rw [fix_len b k]; rfl
theorem mods {N z : Nat} (h : N % z = 0) : (N : Int).tmod (z : Int) = 0 ∧ (N : Int) % (z : Int) = 0 :=
  ⟨by show ((N % z : Nat) : Int) = 0; rw [h]; rfl, by show ((N % z : Nat) : Int) = 0; rw [h]; rfl⟩
/-- What the law wants to know of a permutation's list of lengths. -/
structure CycFacts (b : Nat → UInt8) (L : List Int) (N : Nat) : Prop where
  len : L.length ≤ 256
  each : ∀ i, i < L.length → 1 ≤ L.getD i 0 ∧ L.getD i 0 ≤ 256
  div : ∀ i, i < L.length → (N : Int).tmod (L.getD i 0) = 0 ∧ (N : Int) % (L.getD i 0) = 0
  sorted : ∀ i, i + 1 < L.length → ¬ L.getD (i + 1) 0 < L.getD i 0
  total : sumF (fun i => L.getD i 0) L.length = 256
  ones : L.count 1 = (fixTo b 256).length
  small : N < 9223372036854775808
  unit : N ≤ 1000000 → byteRow 256 (powOfV b (N : Int)) = byteRow 256 unitB
theorem cycFacts {b : Nat → UInt8} (hp : permB b = true) : CycFacts b (flatTo (cycSt b 256).2 256) (ordTo (lenZ b) (flatTo (cycSt b 256).2 256).length) := by
  have hP := perm_of hp
  have hl : ∀ i, i < (flatTo (cycSt b 256).2 256).length → 1 ≤ lenZ b i ∧ lenZ b i ≤ 256 ∧ (flatTo (cycSt b 256).2 256).getD i 0 = (lenZ b i : Int) := fun i hi => lenZ_in b hi
  refine { len := flat_len256, each := fun i hi => ?_, div := fun i hi => ?_, sorted := fun i hi => ?_, total := by rw [sumF_list]; exact flat_total hP, ones := by rw [flat_ones hP, fix_len], small := (ord_ok b (Nat.le_refl _)).2, unit := fun hN => ?_ }
  · obtain ⟨h1, h2, h3⟩ := hl i hi
    omega
  · obtain ⟨h1, h2, h3⟩ := hl i hi
    rw [h3]
    exact mods (Nat.mod_eq_zero_of_dvd (ord_mem _ i hi))
  · have hs := (flat_sorted (cycSt b 256).2 256).1
    have := List.pairwise_iff_getElem.1 hs i (i + 1) (by omega) hi (by omega)
    rw [List.getD_eq_getElem?_getD, List.getD_eq_getElem?_getD, List.getElem?_eq_getElem hi, List.getElem?_eq_getElem (show i < _ by omega)]
    simp only [Option.getD_some]
    omega
  · have hv : powOfV b ((ordTo (lenZ b) (flatTo (cycSt b 256).2 256).length : Nat) : Int) = PB 32 unitB b (ordTo (lenZ b) (flatTo (cycSt b 256).2 256).length) := by
      unfold powOfV inB
      have h1 : (0 : Int) ≤ ((ordTo (lenZ b) (flatTo (cycSt b 256).2 256).length : Nat) : Int) := by omega
      have h2 : ((ordTo (lenZ b) (flatTo (cycSt b 256).2 256).length : Nat) : Int) ≤ 1000000 := by omega
      simp [h1, h2]
    rw [hv]
    exact pow_unit (by have : (2 : Nat) ^ 32 = 4294967296 := rfl; omega) fun y hy => ord_unit hP hy
theorem powC_ok {N : Nat} (h : N ≤ 1000000) : powOfC (N : Int) = 0 := by
  unfold powOfC inB
  have h1 : (0 : Int) ≤ (N : Int) := by omega
  have h2 : (N : Int) ≤ 1000000 := by omega
  simp [h1, h2]
theorem pow_zero (b : Nat → UInt8) : powOfV b 0 = unitB ∧ powOfC 0 = 0 := by
  constructor
  · show (if inB 0 0 1000000 then PB 32 unitB b (0 : Int).toNat else fun _ => 0) = _
    rw [if_pos (by decide)]
    exact PB_zero _ _ _
  · show (if inB 0 0 1000000 then (0 : Int) else 2) = 0
    rw [if_pos (by decide)]
theorem take_count {L : List Int} {k : Nat} (h : k < L.length) : (L.take (k + 1)).count 1 = (L.take k).count 1 + if L.getD k 0 = 1 then 1 else 0 := by
  rw [List.take_add_one, List.count_append, List.getD_eq_getElem?_getD, List.getElem?_eq_getElem h]
  simp only [Option.toList_some, List.count_singleton, Option.getD_some]
  congr 1
  by_cases e : L[k] = 1 <;> simp [e]
set_option maxRecDepth 100000 in
set_option maxHeartbeats 1600000 in
theorem fnBoxCycles.walk (a0 : Option Addr) (n cap : Nat) (b0 : Nat → UInt8) (w : World) (hs : ByteS w a0 n cap b0) :
    Calls Try.prog 5 #[.slice a0 n cap] w fun e w' => e = .returned (.bool true) ∧ Below w.heap.size w w' := by
  have G := lbig a0 n cap w
  by_cases hn : n ≤ 4096
  · rw [decide_eq_false (show ¬ (4096 : Int) < (n : Int) by omega)] at G
    have G := Lib.hid G
    have HS := Lib.hid hs
    clear hs
    go_enter Try.func5, Try.ntmps5
    have l := Lib.hid (Below.refl w.heap.size w)
    go_wp2_with fail
    refine G.out.mono ?_
    rintro e wx ⟨rfl, hw⟩
    obtain rfl : w = wx := hw.symm
    clear G
    go_wp2_with fail
    refine (drawCyclesOf _ HS.out hn).mono ?_
    rintro e wx ⟨b, rfl, hb⟩
    have l := carryS l hb
    clear hb HS
    obtain ⟨ws, rfl⟩ : ∃ ws : World, ws = wx := ⟨_, rfl⟩
    go_wp2_with (first | (refine wpList_loadH rfl _ _ rfl _ rfl (by assumption) Try.underlying25 rfl size25 (byteRow_size _ _) ?_) | (refine wpList_storeNew rfl _ _ _ rfl _ rfl rfl zeroBox size25 (byteRow_size _ _) (byteRow_size _ _) (byteRow_all _ _) ?_; intro wy kb hb; have l := carryS l hb; have kb := Lib.hid kb; clear hb))
    refine (implCyclesOf b _).mono ?_
    rintro e wx ⟨vl, rfl, hr, hb⟩
    have kb := carryB kb hb
    have l := carryS l hb
    have rl := Lib.hid hr
    clear hr hb
    go_wp2_with (refine wpList_loadH rfl _ _ rfl _ rfl (by assumption) Try.underlying25 rfl size25 (byteRow_size _ _) ?_)
    refine (specCyclesOf b _).mono ?_
    rintro e wx ⟨vd, rfl, hr, hb⟩
    have kb := carryB kb hb
    have l := carryS l hb
    have rl := carryR rl hb
    have rd := Lib.hid hr
    clear hr hb
    go_wp2_with fail
    refine (likeInts _ rl.out rd.out).mono ?_
    rintro e wx ⟨rfl, hb⟩
    have kb := carryB kb hb
    have l := carryS l hb
    have rl := carryR rl hb
    clear hb rd
    go_wp2_with (refine wpList_loadH rfl _ _ rfl _ rfl (by assumption) Try.underlying25 rfl size25 (byteRow_size _ _) ?_)
    refine (implFixedRow b _).mono ?_
    rintro e wx ⟨vf, rfl, hr, hb⟩
    have kb := carryB kb hb
    have l := carryS l hb
    have rl := carryR rl hb
    have rf := Lib.hid hr
    clear hr hb
    go_wp2_with (refine wpList_loadH rfl _ _ rfl _ rfl (by assumption) Try.underlying25 rfl size25 (byteRow_size _ _) ?_)
    refine (implOrderOfBox b _).mono ?_
    rintro e wx ⟨rfl, hb⟩
    have kb := carryB kb hb
    have l := carryS l hb
    have rl := carryR rl hb
    have rf := carryR rf hb
    clear hb
    go_wp2_with (refine wpList_loadH rfl _ _ rfl _ rfl (by assumption) Try.underlying25 rfl size25 (byteRow_size _ _) ?_)
    refine (specOrderOfBox b _).mono ?_
    rintro e wx ⟨rfl, hb⟩
    have kb := carryB kb hb
    have l := carryS l hb
    have rl := carryR rl hb
    have rf := carryR rf hb
    clear hb
    go_wp2_with (first | (refine wpList_loadH rfl _ _ rfl _ rfl (by assumption) Try.underlying25 rfl size25 (byteRow_size _ _) ?_) | (refine wpList_loadG rfl _ _ rfl _ rfl (by assumption) Try.underlying25 rfl size25 (byteRow_size _ _) ?_))
    refine (specFixedRow b _).mono ?_
    rintro e wx ⟨vh, rfl, hr, hb⟩
    have kb := carryB kb hb
    have l := carryS l hb
    have rl := carryR rl hb
    have rf := carryR rf hb
    have rh := Lib.hid hr
    clear hr hb
    go_wp2_with fail
    refine (likeInts _ rf.out rh.out).mono ?_
    rintro e wx ⟨rfl, hb⟩
    have kb := carryB kb hb
    have l := carryS l hb
    have rl := carryR rl hb
    have rf := carryR rf hb
    clear hb rh
    obtain ⟨af, cf, hvf, _, _, _⟩ := rf.out.form
    subst hvf
    obtain ⟨M, hM⟩ : ∃ M, (fixTo b 256).length = M := ⟨_, rfl⟩
    rw [hM] at rf ⊢
    cases hp : permB b with
    | false =>
      obtain ⟨hL, hC⟩ := cy_bad hp
      rw [hL] at rl
      rw [hC]
      obtain ⟨al, cl, hvl, _, _, _⟩ := rl.out.form
      subst hvl
      clear hp hL hC
      go_wp2_with fail
      go_ret
      exact ⟨rfl, l.out⟩
    | true =>
      obtain ⟨hL, hC⟩ := cy_good hp
      have hO := (or_good hp).1
      have F := cycFacts hp
      obtain ⟨L, eL⟩ : ∃ L, flatTo (cycSt b 256).2 256 = L := ⟨_, rfl⟩
      obtain ⟨N, eN⟩ : ∃ N, ordTo (lenZ b) L.length = N := ⟨_, rfl⟩
      rw [hL] at rl
      rw [hC, hO]
      rw [eL] at rl F ⊢
      rw [eN] at F ⊢
      have hN := F.small
      have hlen := F.len
      have F := Lib.hid F
      obtain ⟨al, cl, hvl, _, _, fl⟩ := rl.out.form
      subst hvl
      clear hp hL hC hO eL eN
      have rl := Lib.hid (rl.out.mono (Nat.zero_le _))
      go_wp2_with fail
      go_loopw [14, 13] (fun i o wr => ∃ k : Nat, k ≤ L.length ∧ i = .int .i64 k ∧ o = .int .i64 (((L.take k).count 1 : Nat) : Int) ∧ Blk wr ws.heap.size 25 (byteRow 256 b) ∧ RowF wr 0 2 (.slice al L.length cl) L.length (lng (fun i => L.getD i 0)) ∧ Below w.heap.size w wr)
        (fun i _ _ => L.length - (intOf i).toNat)
      case atStart => exact ⟨0, by omega, rfl, rfl, kb.out, rl.out, l.out⟩
      case round =>
        clear kb rl l
        obtain ⟨k, hk, rfl, rfl, hkb, hrl, hb⟩ := hrel
        by_cases hlt : k < L.length
        · have hki : (k : Int) < (L.length : Int) := by omega
          obtain ⟨g, rfl, _, _⟩ := fl.resolve_left (by omega)
          obtain ⟨z1, z2⟩ := F.out.each k hlt
          obtain ⟨d1, d2⟩ := F.out.div k hlt
          have ht := take_count hlt
          have c1 : wr.cell? ⟨g, k, none⟩ = some (.int .i64 (L.getD k 0)) := hrl.at_ hlt
          obtain ⟨c, hc⟩ : ∃ c, (L.take k).count 1 = c := ⟨_, rfl⟩
          have hcl : c ≤ 256 := by have := List.count_le_length (a := (1 : Int)) (l := L.take k); simp at this; omega
          rw [hc] at ht ⊢
          have hs : ∀ j, k = j + 1 → ∃ y, wr.cell? ⟨g, j, none⟩ = some (.int .i64 y) ∧ ¬ L.getD k 0 < y := by
            intro j hj
            subst hj
            exact ⟨_, hrl.at_ (i := j) (by omega), F.out.sorted j hlt⟩
          obtain ⟨z, hz⟩ : ∃ z, L.getD k 0 = z := ⟨_, rfl⟩
          rw [hz] at z1 z2 d1 d2 c1 hs ht
          have hz0 : ¬ z = 0 := by omega
          clear hz hc
          have Hkb := Lib.hid hkb; clear hkb; have Hrl := Lib.hid hrl; clear hrl; have Hb := Lib.hid hb; clear hb; have Ht := Lib.hid ht; clear ht
          by_cases hone : z = 1
          · subst hone
            rw [if_pos rfl] at Ht
            cases k with
            | zero =>
              clear hs
              go_wp2
              go_quiet (fail)
              go_wp2
              go_roundw
              case rel => exact ⟨1, by omega, by go_num, by rw [Ht.out]; go_num, Hkb.out.drewN _, Hrl.out.drewN _, below_drewN' Hb.out _⟩
              case measure => simp [intOf]; omega
            | succ j =>
              obtain ⟨y, c2, hlt2⟩ := hs j rfl
              clear hs
              have hj0 : 0 < j + 1 := by omega
              have hj1 : (0 : Int) < (j : Int) + 1 := by omega
              have hj2 : (j : Int) < (L.length : Int) := by omega
              go_wp2
              go_quiet (fail)
              go_wp2
              go_roundw
              case rel => exact ⟨j + 1 + 1, by omega, by go_num, by rw [Ht.out]; go_num, Hkb.out.drewN _, Hrl.out.drewN _, below_drewN' Hb.out _⟩
              case measure => simp [intOf]; omega
          · rw [if_neg hone] at Ht
            cases k with
            | zero =>
              clear hs
              go_wp2
              go_quiet (fail)
              go_wp2
              go_roundw
              case rel => exact ⟨1, by omega, by go_num, by rw [Ht.out]; rfl, Hkb.out.drewN _, Hrl.out.drewN _, below_drewN' Hb.out _⟩
              case measure => simp [intOf]; omega
            | succ j =>
              obtain ⟨y, c2, hlt2⟩ := hs j rfl
              clear hs
              have hj0 : 0 < j + 1 := by omega
              have hj1 : (0 : Int) < (j : Int) + 1 := by omega
              have hj2 : (j : Int) < (L.length : Int) := by omega
              go_wp2
              go_quiet (fail)
              go_wp2
              go_roundw
              case rel => exact ⟨j + 1 + 1, by omega, by go_num, by rw [Ht.out]; rfl, Hkb.out.drewN _, Hrl.out.drewN _, below_drewN' Hb.out _⟩
              case measure => simp [intOf]; omega
        · obtain rfl : k = L.length := by omega
          have ho := F.out.ones
          rw [hM] at ho
          rw [List.take_length, ho]
          have kb := Lib.hid hkb
          have rl := Lib.hid hrl
          have l := Lib.hid hb
          clear hkb hrl hb hM
          go_wp2_with fail
          refine (lsum _ rl.out (by omega) (fun i hi => by have := F.out.each i hi; omega)).mono ?_
          rintro e wx ⟨rfl, hb⟩
          have kb := carryB kb hb
          have l := carryS l hb
          clear hb
          rw [F.out.total]
          by_cases hbig : N ≤ 1000000
          · have hbi : ¬ (1000000 : Int) < (N : Int) := by omega
            obtain ⟨p1, p2⟩ := pow_zero b
            have p3 := powC_ok hbig
            have p4 := F.out.unit hbig
            have P0 := Lib.hid (implPowerOfBox b 0)
            have P1 := Lib.hid (implPowerOfBox b (N : Int))
            rw [p1, p2] at P0
            rw [p3, p4] at P1
            clear p1 p2 p3 p4
            go_wp2_with (refine wpList_loadH rfl _ _ rfl _ rfl (by assumption) Try.underlying25 rfl size25 (byteRow_size _ _) ?_)
            refine (P0.out _).mono ?_
            rintro e wx ⟨rfl, hb⟩
            have kb := carryB kb hb
            have l := carryS l hb
            clear hb P0
            go_wp2_with (first | (refine wpList_loadH rfl _ _ rfl _ rfl (by assumption) Try.underlying25 rfl size25 (byteRow_size _ _) ?_) | (refine wpList_storeNew rfl _ _ _ rfl _ rfl rfl zeroBox size25 (byteRow_size _ _) (byteRow_size _ _) (byteRow_all _ _) ?_; intro wy k1 hb; have kb := carryB kb hb; have l := carryS l hb; have k1 := Lib.hid k1; clear hb))
            refine (P1.out _).mono ?_
            rintro e wx ⟨rfl, hb⟩
            have kb := carryB kb hb
            have k1 := carryB k1 hb
            have l := carryS l hb
            clear hb P1
            have EQ := eqBoxA unitB
            have EG := guardBox
            have sU : (byteRow 256 unitB).size = 256 := byteRow_size _ _
            go_upto_region 29 with (refine wpList_storeNew rfl _ _ _ rfl _ rfl rfl zeroBox size25 (byteRow_size _ _) (byteRow_size _ _) (byteRow_all _ _) ?_; intro wy k2 hb; have kb := carryB kb hb; have k1 := carryB k1 hb; have l := carryS l hb; have k2 := Lib.hid k2; clear hb)
            obtain ⟨U, hU⟩ : ∃ U, byteRow 256 unitB = U := ⟨_, rfl⟩
            rw [hU] at k1 k2 EQ sU
            clear hU kb F
            go_wp2_with (first | (refine wpList_loadG rfl _ _ rfl _ rfl k2 Try.underlying25 rfl size25 sU ?_) | (refine wpList_loadG rfl _ _ rfl _ rfl k1 Try.underlying25 rfl size25 sU ?_))
            go_ret
            exact ⟨rfl, l.out⟩
          · have hbi : (1000000 : Int) < (N : Int) := by omega
            go_wp2_with fail
            go_ret
            exact ⟨rfl, l.out⟩
  · rw [decide_eq_true (show (4096 : Int) < (n : Int) by omega)] at G
    have G := Lib.hid G
    clear hs
    go_enter Try.func5, Try.ntmps5
    go_wp2_with fail
    refine G.out.mono ?_
    rintro e wx ⟨rfl, hw⟩
    obtain rfl : w = wx := hw.symm
    go_wp2_with fail
    go_ret
    exact ⟨rfl, Below.refl _ _⟩
end Go.Proofs.Ytoijoogonajopaa
