/- Contracts: places that spread, by the program and by the reference, and the walk of the law. No condition. -/
import Derived.Test.YtdhlfbipljelcaaRows
import Derived.Test.YtdhlfbipljelcaaLaws
import Derived.Test.YtdhlfbipljelcaaPerm
import Derived.Test.YtdhlfbipljelcaaPlaces
set_option linter.unusedVariables false
namespace Go.Proofs.Ytdhlfbipljelcaa
open Go.RowKit Plain
def hitC (p : Nat → UInt8) (c : Nat) : Nat → Nat → Bool
  | 0, _ => false
  | k + 1, q => hitC p c k q || (decide ((p k).toNat / 4 = c) && decide (k / 4 = q))
def spreadB (p : Nat → UInt8) : Bool := (List.range 16).all fun j => !hitC p ((p j).toNat / 4) j (j / 4)
theorem spread_false {p : Nat → UInt8} {j : Nat} (hj : j < 16) (h : hitC p ((p j).toNat / 4) j (j / 4) = true) : spreadB p = false := by
  cases hs : spreadB p with
  | false => rfl
  | true =>
    have := List.all_eq_true.1 hs j (List.mem_range.2 hj)
    rw [h] at this
    cases this
theorem spread_true {p : Nat → UInt8} (h : ∀ j, j < 16 → hitC p ((p j).toNat / 4) j (j / 4) = false) : spreadB p = true :=
  List.all_eq_true.2 fun j hj => by rw [h j (List.mem_range.1 hj)]; rfl
theorem hit_same {p : Nat → UInt8} {c k : Nat} (hc : (p k).toNat / 4 = c) (n : Nat) : boolRow n (upd (hitC p c k) (k / 4) true) = boolRow n (hitC p c (k + 1)) := boolRow_congr fun i _ => by
  unfold upd
  show _ = (hitC p c k i || (decide ((p k).toNat / 4 = c) && decide (k / 4 = i)))
  by_cases h : i = k / 4
  · subst h; simp [hc]
  · simp [h, Ne.symm h]
theorem hit_other {p : Nat → UInt8} {c k : Nat} (hc : (p k).toNat / 4 ≠ c) (n : Nat) : boolRow n (hitC p c k) = boolRow n (hitC p c (k + 1)) := boolRow_congr fun i _ => by
  show _ = (hitC p c k i || (decide ((p k).toNat / 4 = c) && decide (k / 4 = i)))
  simp [hc]
theorem hit_all {p : Nat → UInt8} {k : Nat} (hp : (p k).toNat < 16) (hk : k < 16) : boolRow 16 (upd (fun q => hitC p (q / 4) k (q % 4)) ((p k).toNat / 4 * 4 + k / 4) true) = boolRow 16 (fun q => hitC p (q / 4) (k + 1) (q % 4)) := boolRow_congr fun i hi => by
  unfold upd
  show _ = (hitC p (i / 4) k (i % 4) || (decide ((p k).toNat / 4 = i / 4) && decide (k / 4 = i % 4)))
  by_cases h : i = (p k).toNat / 4 * 4 + k / 4
  · have h1 : (p k).toNat / 4 = i / 4 := by omega
    have h2 : k / 4 = i % 4 := by omega
    simp [h1, h2]
    omega
  · have : ¬ ((p k).toNat / 4 = i / 4 ∧ k / 4 = i % 4) := by omega
    rw [if_neg h]
    by_cases h1 : (p k).toNat / 4 = i / 4
    · have h2 : ¬ k / 4 = i % 4 := fun e => this ⟨h1, e⟩
      simp [h2]
    · simp [h1]
def spreadV (p : Nat → UInt8) : Bool := placesB p && spreadB p
def spreadC (p : Nat → UInt8) : Int := if placesB p then 0 else 1
theorem ret_pairS {a b : Bool} {n m : Int} (h : a = b) (h2 : n = m) : Ending.returned (.tuple #[.bool a, .int .i64 n]) = .returned (.tuple #[.bool b, .int .i64 m]) := by rw [h, h2]
theorem false4 : (#[.bool false, .bool false, .bool false, .bool false] : Array Value) = boolRow 4 (fun _ => false) := by kernel_rfl
theorem builtB4 : Try.prog.built 77 [] = some (boolRow 4 (fun _ => false)) := by kernel_rfl
theorem sizeB4 : (Try.prog.info? 77).map (·.size) = some 4 := by kernel_rfl
theorem builtB44 : Try.prog.built 78 [] = some (boolRow 16 (fun _ => false)) := by kernel_rfl
theorem sizeB44 : (Try.prog.info? 78).map (·.size) = some 16 := by kernel_rfl
set_option maxRecDepth 100000 in
set_option maxHeartbeats 800000 in
theorem l03Spreads (p : Nat → UInt8) (hs : SmallTo p 16) (w : World) :
    Calls Try.prog 66 #[.agg (byteRow 16 p)] w fun e w' => e = .returned (.bool (spreadB p)) ∧ Below w.heap.size w w' := by
  go_enter Try.func66, Try.ntmps66
  go_wp2
  go_loopw [3] (fun i wr => ∃ c : Nat, c ≤ 4 ∧ i = .int .i64 c ∧ Blk wr w.heap.size 38 (byteRow 16 p) ∧ (∀ j, j < 16 → (p j).toNat / 4 < c → hitC p ((p j).toNat / 4) j (j / 4) = false) ∧ Below w.heap.size w wr)
    (fun i _ => 4 - (intOf i).toNat)
  case atStart => exact ⟨0, by omega, rfl, Blk.new w _ _, fun j _ h => absurd h (Nat.not_lt_zero _), (Below.refl _ _).alloc (by omega) _⟩
  case round =>
    obtain ⟨c, hc, rfl, b0, hd, hb⟩ := hrel
    by_cases hlt : c < 4
    · have hci : (c : Int) < 4 := by omega
      have hgx := b0.lt
      have k0 := Lib.hid b0
      have l := Lib.hid hb
      clear b0 hb
      have Hd := Lib.hid hd; clear hd
      obtain ⟨ws, hws⟩ : ∃ ws : World, ws = wr := ⟨_, rfl⟩
      subst hws
      go_wp2_with (first | (refine wpList_buildZ rfl _ rfl builtB4 ?_) | (refine wpList_storeR rfl _ _ _ rfl _ _ rfl rfl ((Blk.newAt (by simp)).eq_ false4) sizeB4 (boolRow_size _ _) (boolRow_size _ _) (boolRow_all _ _) ?_))
      go_loopw [5] (fun i wr => ∃ k : Nat, k ≤ 16 ∧ i = .int .i64 k ∧ Blk wr w.heap.size 38 (byteRow 16 p) ∧ Blk wr ws.heap.size 77 (boolRow 4 (hitC p c k)) ∧ (∀ j, j < k → (p j).toNat / 4 = c → hitC p c j (j / 4) = false) ∧ Below w.heap.size w wr)
        (fun i _ => 16 - (intOf i).toNat)
      case atStart => exact ⟨0, by omega, rfl, (k0.out.alloc _).rowFar (by omega) _, (Blk.newAt (by simp)).setRow _, fun j h => absurd h (Nat.not_lt_zero _), below_row (l.out.alloc (by omega) _) (by omega) _⟩
      case round =>
        obtain ⟨k, hk, rfl, b0, b1, he, hb⟩ := hrel
        by_cases hkl : k < 16
        · have hki : (k : Int) < 16 := by omega
          have c0 := b0.byteAt hkl
          have hpk := hs k hkl
          by_cases hpc : (p k).toNat / 4 = c
          · have e1 : (((p k).toNat : Int) / 4 == (c : Int)) = true := by rw [beq_iff_eq]; omega
            obtain ⟨q, hq⟩ : ∃ q, k / 4 = q := ⟨_, rfl⟩
            have hq4 : q < 4 := by omega
            have hqi : (k : Int) / 4 = (q : Int) := by omega
            have hql : (q : Int) < 4 := by omega
            have c1 := b1.boolAt hq4
            have f1 := b1.frozen q
            cases hm : hitC p c k q with
            | true =>
              rw [hm] at c1
              have hr := spread_false hkl (by rw [hpc, hq]; exact hm)
              clear hm hpc hq
              have H0 := Lib.hid b0; clear b0; have H1 := Lib.hid b1; clear b1; have Hb := Lib.hid hb; clear hb; have He := Lib.hid he; clear he; have Hr := Lib.hid hr; clear hr
              go_wp2
              go_ret
              exact ⟨ret_bool Hr.out.symm, Hb.out⟩
            | false =>
              rw [hm] at c1
              have hst := hit_same (p := p) (c := c) (k := k) hpc 4
              rw [hq] at hst
              have he2 : ∀ j, j < k + 1 → (p j).toNat / 4 = c → hitC p c j (j / 4) = false := fun j hj hjc => by
                by_cases h : j = k
                · subst h; rw [hq]; exact hm
                · exact he j (by omega) hjc
              clear hm hpc hq he
              have H0 := Lib.hid b0; clear b0; have H1 := Lib.hid b1; clear b1; have Hb := Lib.hid hb; clear hb; have He2 := Lib.hid he2; clear he2; have Hst := Lib.hid hst; clear hst
              go_wp2
              go_roundw
              case rel => exact ⟨k + 1, by omega, by go_num, H0.out.farC (by omega) _, (H1.out.boolPut q true).eq_ Hst.out, He2.out, Hb.out.setCell (p := ⟨ws.heap.size, q, none⟩) (by show _ ≤ ws.heap.size; omega) _⟩
              case measure => simp [intOf]; omega
          · have e1 : (((p k).toNat : Int) / 4 == (c : Int)) = false := by rw [beq_eq_false_iff_ne]; omega
            have hst := hit_other (p := p) (c := c) (k := k) hpc 4
            have he2 : ∀ j, j < k + 1 → (p j).toNat / 4 = c → hitC p c j (j / 4) = false := fun j hj hjc => by
              by_cases h : j = k
              · subst h; exact absurd hjc hpc
              · exact he j (by omega) hjc
            clear hpc he
            have H0 := Lib.hid b0; clear b0; have H1 := Lib.hid b1; clear b1; have Hb := Lib.hid hb; clear hb; have He2 := Lib.hid he2; clear he2; have Hst := Lib.hid hst; clear hst
            go_wp2
            go_roundw
            case rel => exact ⟨k + 1, by omega, by go_num, H0.out, H1.out.eq_ Hst.out, He2.out, Hb.out⟩
            case measure => simp [intOf]; omega
        · obtain rfl : k = 16 := by omega
          have hd2 : ∀ j, j < 16 → (p j).toNat / 4 < c + 1 → hitC p ((p j).toNat / 4) j (j / 4) = false := fun j hj hjc => by
            by_cases h : (p j).toNat / 4 = c
            · rw [h]; exact he j hj h
            · exact Hd.out j hj (by omega)
          clear he
          have H0 := Lib.hid b0; clear b0; have H1 := Lib.hid b1; clear b1; have Hb := Lib.hid hb; clear hb; have Hd2 := Lib.hid hd2; clear hd2
          go_wp2
          go_roundw
          case rel => exact ⟨c + 1, by omega, by go_num, H0.out, Hd2.out, Hb.out⟩
          case measure => simp [intOf]; omega
    · obtain rfl : c = 4 := by omega
      have hr := spread_true (p := p) fun j hj => hd j hj (by have := hs j hj; omega)
      clear hd
      have H0 := Lib.hid b0; clear b0; have Hb := Lib.hid hb; clear hb; have Hr := Lib.hid hr; clear hr
      go_wp2
      go_ret
      exact ⟨ret_bool Hr.out.symm, Hb.out⟩
set_option maxRecDepth 100000 in
set_option maxHeartbeats 400000 in
theorem specIsSpreading (p : Nat → UInt8) (w : World) :
    Calls Try.prog 36 #[.agg (byteRow 16 p)] w fun e w' => e = .returned (.tuple #[.bool (spreadV p), .int .i64 (spreadC p)]) ∧ Below w.heap.size w w' := by
  have k0 := Lib.hid (Blk.new w 38 (byteRow 16 p))
  have l := Lib.hid ((Below.refl w.heap.size w).alloc (Nat.le_refl _) (.cells (byteRow 16 p) 38))
  cases hp : placesB p with
  | true =>
    have hi : spreadV p = spreadB p := by unfold spreadV; rw [hp, Bool.true_and]
    have hc : spreadC p = 0 := by unfold spreadC; rw [hp, if_pos rfl]
    have hs := (places_of hp).1
    have hp' := Lib.hid hp
    have Hi := Lib.hid hi; clear hi; have Hc := Lib.hid hc; clear hc; have Hs := Lib.hid hs; clear hs
    go_enter Try.func36, Try.ntmps36
    go_wp2_with (refine wpList_loadH rfl _ _ rfl _ rfl (by assumption) Try.underlying38 rfl size38 (byteRow_size _ _) ?_)
    refine (l03Perm _ _).mono ?_
    rintro e wx ⟨rfl, hb⟩
    have k0 := carryB k0 hb
    have l := carryS l hb
    clear hb
    go_wp2_with (refine wpList_loadH rfl _ _ rfl _ rfl (by assumption) Try.underlying38 rfl size38 (byteRow_size _ _) ?_)
    refine (l03Spreads _ Hs.out _).mono ?_
    rintro e wx ⟨rfl, hb⟩
    have k0 := carryB k0 hb
    have l := carryS l hb
    clear hb
    go_wp2_with fail
    go_ret2
    exact ⟨ret_pairS Hi.out.symm Hc.out.symm, l.out⟩
  | false =>
    have hi : spreadV p = false := by unfold spreadV; rw [hp, Bool.false_and]
    have hc : spreadC p = 1 := by unfold spreadC; rw [hp, if_neg (by simp)]
    have hp' := Lib.hid hp
    have Hi := Lib.hid hi; clear hi; have Hc := Lib.hid hc; clear hc
    go_enter Try.func36, Try.ntmps36
    go_wp2_with (refine wpList_loadH rfl _ _ rfl _ rfl (by assumption) Try.underlying38 rfl size38 (byteRow_size _ _) ?_)
    refine (l03Perm _ _).mono ?_
    rintro e wx ⟨rfl, hb⟩
    have k0 := carryB k0 hb
    have l := carryS l hb
    clear hb
    go_wp2_with fail
    go_ret2
    exact ⟨ret_pairS Hi.out.symm Hc.out.symm, l.out⟩
set_option maxRecDepth 100000 in
set_option maxHeartbeats 800000 in
theorem implIsSpreading (p : Nat → UInt8) (w : World) :
    Calls Try.prog 37 #[.agg (byteRow 16 p)] w fun e w' => e = .returned (.tuple #[.bool (spreadV p), .int .i64 (spreadC p)]) ∧ Below w.heap.size w w' := by
  have k0 := Lib.hid (Blk.new w 38 (byteRow 16 p))
  have l := Lib.hid ((Below.refl w.heap.size w).alloc (Nat.le_refl _) (.cells (byteRow 16 p) 38))
  cases hp : placesB p with
  | false =>
    have hi : spreadV p = false := by unfold spreadV; rw [hp, Bool.false_and]
    have hc : spreadC p = 1 := by unfold spreadC; rw [hp, if_neg (by simp)]
    have hp' := Lib.hid hp
    have Hi := Lib.hid hi; clear hi; have Hc := Lib.hid hc; clear hc
    go_enter Try.func37, Try.ntmps37
    go_wp2_with (refine wpList_loadH rfl _ _ rfl _ rfl (by assumption) Try.underlying38 rfl size38 (byteRow_size _ _) ?_)
    refine (implArePlaces _ _).mono ?_
    rintro e wx ⟨rfl, hb⟩
    have k0 := carryB k0 hb
    have l := carryS l hb
    clear hb
    go_wp2_with fail
    go_ret2
    exact ⟨ret_pairS Hi.out.symm Hc.out.symm, l.out⟩
  | true =>
    have hi : spreadV p = spreadB p := by unfold spreadV; rw [hp, Bool.true_and]
    have hc : spreadC p = 0 := by unfold spreadC; rw [hp, if_pos rfl]
    have hs := (places_of hp).1
    have hp' := Lib.hid hp
    have Hi := Lib.hid hi; clear hi; have Hc := Lib.hid hc; clear hc
    go_enter Try.func37, Try.ntmps37
    go_wp2_with (refine wpList_loadH rfl _ _ rfl _ rfl (by assumption) Try.underlying38 rfl size38 (byteRow_size _ _) ?_)
    refine (implArePlaces _ _).mono ?_
    rintro e wx ⟨rfl, hb⟩
    have k0 := carryB k0 hb
    have l := carryS l hb
    clear hb
    have hgx := k0.out.lt
    obtain ⟨ws, hws⟩ : ∃ ws : World, ws = wx := ⟨_, rfl⟩
    subst hws
    have k9 := Lib.hid ((k0.out.alloc (.cells #[.bool false, .bool false, .bool false, .bool false, .bool false, .bool false, .bool false, .bool false, .bool false, .bool false, .bool false, .bool false, .bool false, .bool false, .bool false, .bool false] 78)).rowFar (show w.heap.size ≠ ws.heap.size by omega) (boolRow 16 (fun _ => false)))
    go_wp2_with (first | (refine wpList_buildZ rfl _ rfl builtB44 ?_) | (refine wpList_storeR rfl _ _ _ rfl _ _ rfl rfl ((Blk.newAt (by simp)).eq_ false16) sizeB44 (boolRow_size _ _) (boolRow_size _ _) (boolRow_all _ _) ?_) | (refine wpList_loadH rfl _ _ rfl _ rfl (by assumption) Try.underlying38 rfl size38 (byteRow_size _ _) ?_))
    go_loopw [12] (fun i wr => ∃ k : Nat, k ≤ 16 ∧ i = .int .i64 k ∧ Blk wr ws.heap.size 78 (boolRow 16 (fun q => hitC p (q / 4) k (q % 4))) ∧ (∀ j, j < k → hitC p ((p j).toNat / 4) j (j / 4) = false) ∧ Below w.heap.size w wr)
      (fun i _ => 16 - (intOf i).toNat)
    case atStart => exact ⟨0, by omega, rfl, (Blk.newAt (by simp)).setRow _, fun j h => absurd h (Nat.not_lt_zero _), below_row (l.out.alloc (by omega) _) (by omega) _⟩
    case round =>
      obtain ⟨k, hk, rfl, b1, he, hb⟩ := hrel
      by_cases hkl : k < 16
      · have hki : (k : Int) < 16 := by omega
        have ix := fun (w : World) => run_index_row (w := w) .i64 Try.underlying38 sizeU1 (.inl Try.underlying5) hkl (byteRow_at p hkl)
        have hpk := hs k hkl
        have hst := hit_all hpk hkl
        obtain ⟨r, hr⟩ : ∃ r, (p k).toNat / 4 = r := ⟨_, rfl⟩
        obtain ⟨q, hq⟩ : ∃ q, k / 4 = q := ⟨_, rfl⟩
        have hq4 : q < 4 := by omega
        have hr4 : r < 4 := by omega
        have hqi : (k : Int) / 4 = (q : Int) := by omega
        have hri : ((p k).toNat : Int) / 4 = (r : Int) := by omega
        have hql : (q : Int) < 4 := by omega
        have hrl : (r : Int) < 4 := by omega
        have c1 := b1.boolAt (i := r * 4 + q) (by omega)
        rw [show (r * 4 + q) / 4 = r by omega, show (r * 4 + q) % 4 = q by omega] at c1
        have f1 := b1.frozen (r * 4 + q)
        rw [hr, hq] at hst
        cases hm : hitC p r k q with
        | true =>
          rw [hm] at c1
          have hz := spread_false hkl (by rw [hr, hq]; exact hm)
          clear hm hr hq
          have H1 := Lib.hid b1; clear b1; have Hb := Lib.hid hb; clear hb; have He := Lib.hid he; clear he; have Hz := Lib.hid hz; clear hz; have Hst := Lib.hid hst; clear hst
          go_wp2
          go_ret2
          exact ⟨ret_pairS (by rw [Hi.out, Hz.out]) Hc.out.symm, Hb.out⟩
        | false =>
          rw [hm] at c1
          have he2 : ∀ j, j < k + 1 → hitC p ((p j).toNat / 4) j (j / 4) = false := fun j hj => by
            by_cases h : j = k
            · subst h; rw [hr, hq]; exact hm
            · exact he j (by omega)
          clear hm hr hq he
          have H1 := Lib.hid b1; clear b1; have Hb := Lib.hid hb; clear hb; have He2 := Lib.hid he2; clear he2; have Hst := Lib.hid hst; clear hst
          go_wp2
          go_roundw
          case rel => exact ⟨k + 1, by omega, by go_num, (H1.out.boolPut (r * 4 + q) true).eq_ Hst.out, He2.out, Hb.out.setCell (p := ⟨ws.heap.size, r * 4 + q, none⟩) (by show _ ≤ ws.heap.size; omega) _⟩
          case measure => simp [intOf]; omega
      · obtain rfl : k = 16 := by omega
        have hz := spread_true (p := p) he
        clear he
        have H1 := Lib.hid b1; clear b1; have Hb := Lib.hid hb; clear hb; have Hz := Lib.hid hz; clear hz
        go_wp2
        go_ret2
        exact ⟨ret_pairS (by rw [Hi.out, Hz.out]) Hc.out.symm, Hb.out⟩
set_option maxRecDepth 100000 in
set_option maxHeartbeats 800000 in
theorem fnExactIsSpreading.walk (b : Nat → UInt8) (w : World) :
    Calls Try.prog 10 #[.agg (byteRow 16 b)] w fun e w' => e = .returned (.bool true) ∧ Below w.heap.size w w' := by
  go_enter Try.func10, Try.ntmps10
  have k0 := Lib.hid (Blk.new w 37 (byteRow 16 b))
  have l := Lib.hid ((Below.refl w.heap.size w).alloc (Nat.le_refl _) (.cells (byteRow 16 b) 37))
  go_wp2_with (refine wpList_loadH rfl _ _ rfl _ rfl (by assumption) Try.underlying37 rfl size37 (byteRow_size _ _) ?_)
  refine (toPlaces _ _).mono ?_
  rintro e wx ⟨rfl, hb⟩
  have k0 := carryB k0 hb
  have l := carryS l hb
  clear hb
  go_wp2_with (refine wpList_loadH rfl _ _ rfl _ rfl (by assumption) Try.underlying37 rfl size37 (byteRow_size _ _) ?_)
  refine (specIsSpreading _ _).mono ?_
  rintro e wx ⟨rfl, hb⟩
  have k0 := carryB k0 hb
  have l := carryS l hb
  clear hb
  go_wp2_with (refine wpList_loadH rfl _ _ rfl _ rfl (by assumption) Try.underlying37 rfl size37 (byteRow_size _ _) ?_)
  refine (toPlaces _ _).mono ?_
  rintro e wx ⟨rfl, hb⟩
  have k0 := carryB k0 hb
  have l := carryS l hb
  clear hb
  go_wp2_with (refine wpList_loadH rfl _ _ rfl _ rfl (by assumption) Try.underlying37 rfl size37 (byteRow_size _ _) ?_)
  refine (implIsSpreading _ _).mono ?_
  rintro e wx ⟨rfl, hb⟩
  have k0 := carryB k0 hb
  have l := carryS l hb
  clear hb
  go_wp2_with (refine wpList_loadH rfl _ _ rfl _ rfl (by assumption) Try.underlying37 rfl size37 (byteRow_size _ _) ?_)
  go_ret
  exact ⟨rfl, l.out⟩
end Go.Proofs.Ytdhlfbipljelcaa
