/- Contracts: places composed and blocks moved by places, by the program and by the reference. No condition. -/
import Derived.Test.YtdhlfbipljelcaaRows
import Derived.Test.YtdhlfbipljelcaaLaws
import Derived.Test.YtdhlfbipljelcaaPerm
import Derived.Test.YtdhlfbipljelcaaPlaces
import Derived.Test.YtdhlfbipljelcaaInvPl
set_option linter.unusedVariables false
namespace Go.Proofs.Ytdhlfbipljelcaa
open Go.RowKit Plain
def pick (p q : Nat → UInt8) : Nat → UInt8 := fun i => p (q i).toNat
def comPl (p q : Nat → UInt8) : Nat → UInt8 := if placesB p = true ∧ placesB q = true then pick p q else fun _ => 0
def comPlC (p q : Nat → UInt8) : Int := if placesB p = true ∧ placesB q = true then 0 else 1
def movB (p q : Nat → UInt8) : Nat → UInt8 := if placesB p = true then pick q p else fun _ => 0
def movBC (p : Nat → UInt8) : Int := if placesB p = true then 0 else 1
theorem builtBlk : Try.prog.built 48 [] = some (byteRow 16 (fun _ => 0)) := by kernel_rfl
set_option maxRecDepth 100000 in
set_option maxHeartbeats 1600000 in
theorem specComposePlaces (p q : Nat → UInt8) (w : World) :
    Calls Try.prog 34 #[.agg (byteRow 16 p), .agg (byteRow 16 q)] w fun e w' => e = .returned (.tuple #[.agg (byteRow 16 (comPl p q)), .int .i64 (comPlC p q)]) ∧ Below w.heap.size w w' := by
  have k0 := Lib.hid (((Blk.new w 38 (byteRow 16 p)).alloc (.cells (byteRow 16 q) 38)).alloc (.cells #[.int .u8 0, .int .u8 0, .int .u8 0, .int .u8 0, .int .u8 0, .int .u8 0, .int .u8 0, .int .u8 0, .int .u8 0, .int .u8 0, .int .u8 0, .int .u8 0, .int .u8 0, .int .u8 0, .int .u8 0, .int .u8 0] 38))
  have k1 := Lib.hid ((Blk.newAt (t := 38) (cs := byteRow 16 q) (w := w.alloc (.cells (byteRow 16 p) 38)) (n := w.heap.size + 1) (by simp)).alloc (.cells #[.int .u8 0, .int .u8 0, .int .u8 0, .int .u8 0, .int .u8 0, .int .u8 0, .int .u8 0, .int .u8 0, .int .u8 0, .int .u8 0, .int .u8 0, .int .u8 0, .int .u8 0, .int .u8 0, .int .u8 0, .int .u8 0] 38))
  have k2 := Lib.hid ((Blk.newAt (t := 38) (cs := #[.int .u8 0, .int .u8 0, .int .u8 0, .int .u8 0, .int .u8 0, .int .u8 0, .int .u8 0, .int .u8 0, .int .u8 0, .int .u8 0, .int .u8 0, .int .u8 0, .int .u8 0, .int .u8 0, .int .u8 0, .int .u8 0]) (w := (w.alloc (.cells (byteRow 16 p) 38)).alloc (.cells (byteRow 16 q) 38)) (n := w.heap.size + 1 + 1) (by simp)).eq_ zero16)
  have l := Lib.hid ((((Below.refl w.heap.size w).alloc (Nat.le_refl _) (.cells (byteRow 16 p) 38)).alloc (by simp) (.cells (byteRow 16 q) 38)).alloc (by simp; omega) (.cells #[.int .u8 0, .int .u8 0, .int .u8 0, .int .u8 0, .int .u8 0, .int .u8 0, .int .u8 0, .int .u8 0, .int .u8 0, .int .u8 0, .int .u8 0, .int .u8 0, .int .u8 0, .int .u8 0, .int .u8 0, .int .u8 0] 38))
  by_cases hh : placesB p = true ∧ placesB q = true
  · have hi : comPl p q = pick p q := by unfold comPl; rw [if_pos hh]
    have hc : comPlC p q = 0 := by unfold comPlC; rw [if_pos hh]
    obtain ⟨hp, hq⟩ := hh
    have hs := (places_of hq).1
    have hp' := Lib.hid hp; have hq' := Lib.hid hq
    have Hi := Lib.hid hi; clear hi; have Hc := Lib.hid hc; clear hc
    go_enter Try.func34, Try.ntmps34
    go_wp2_with (refine wpList_loadH rfl _ _ rfl _ rfl (by assumption) Try.underlying38 rfl size38 (byteRow_size _ _) ?_)
    refine (l03Perm _ _).mono ?_
    rintro e wx ⟨rfl, hb⟩
    have k0 := carryB k0 hb
    have k1 := carryB k1 hb
    have k2 := carryB k2 hb
    have l := carryS l hb
    clear hb
    go_wp2_with (first | (refine wpList_loadH rfl _ _ rfl _ rfl (by assumption) Try.underlying38 rfl size38 (byteRow_size _ _) ?_) | (refine wpList_loadG rfl _ _ rfl _ rfl (by assumption) Try.underlying38 rfl size38 (byteRow_size _ _) ?_))
    refine (l03Perm _ _).mono ?_
    rintro e wx ⟨rfl, hb⟩
    have k0 := carryB k0 hb
    have k1 := carryB k1 hb
    have k2 := carryB k2 hb
    have l := carryS l hb
    clear hb
    obtain ⟨ws, hws⟩ : ∃ ws : World, ws = wx := ⟨_, rfl⟩
    subst hws
    have hgx := k2.out.lt
    go_wp2_with (first | (refine wpList_buildZ rfl _ rfl builtPlaces ?_) | (refine wpList_storeNew rfl _ _ _ rfl _ rfl rfl zero16 size38 (byteRow_size _ _) (byteRow_size _ _) (byteRow_all _ _) ?_; intro wy kr hb; have k0 := carryB k0 hb; have k1 := carryB k1 hb; have k2 := carryB k2 hb; have l := carryS l hb; have kr := Lib.hid kr; clear hb))
    try simp only [Act.put]
    go_loopw [7] (fun i wr => ∃ k : Nat, k ≤ 16 ∧ i = .int .i64 k ∧ Blk wr w.heap.size 38 (byteRow 16 p) ∧ Blk wr (w.heap.size + 1) 38 (byteRow 16 q) ∧ Blk wr (w.heap.size + 1 + 1) 38 (byteRow 16 (fun _ => 0)) ∧ Blk wr ws.heap.size 38 (byteRow 16 (fun i => if i < k then pick p q i else 0)) ∧ Below w.heap.size w wr)
      (fun i _ => 16 - (intOf i).toNat)
    case atStart => exact ⟨0, by omega, rfl, k0.out, k1.out, k2.out, kr.out.eq_ (byteRow_none _ _ _), l.out⟩
    case round =>
      obtain ⟨k, hk, rfl, b0, b1, b2, b3, hb⟩ := hrel
      clear k0 k1 k2 kr l
      by_cases hlt : k < 16
      · have hki : (k : Int) < 16 := by omega
        have hqk := hs k hlt
        have hqi : ((q k).toNat : Int) < 16 := by omega
        have c0 := b0.byteAt hqk
        have c1 := b1.byteAt hlt
        have c3 := b3.byteAt hlt
        have f3 := b3.frozen k
        have H0 := Lib.hid b0; clear b0; have H1 := Lib.hid b1; clear b1; have H2 := Lib.hid b2; clear b2; have H3 := Lib.hid b3; clear b3; have Hb := Lib.hid hb; clear hb
        go_wp2
        go_roundw
        case rel => exact ⟨k + 1, by omega, by go_num, H0.out.farC (by omega) _, H1.out.farC (by omega) _, H2.out.farC (by omega) _, (H3.out.bytePut k (p (q k).toNat)).eq_ (by rw [← upd_fill]; rfl), Hb.out.setCell (p := ⟨ws.heap.size, k, none⟩) (by show w.heap.size ≤ ws.heap.size; omega) _⟩
        case measure => simp [intOf]; omega
      · have b3' := b3.eq_ (byteRow_full (pick p q) _ hlt)
        clear b3
        have H0 := Lib.hid b0; clear b0; have H1 := Lib.hid b1; clear b1; have H2 := Lib.hid b2; clear b2; have H3' := Lib.hid b3'; clear b3'; have Hb := Lib.hid hb; clear hb
        go_wp2_with (first | (refine wpList_loadR rfl _ _ rfl _ rfl H3'.out Try.underlying38 rfl size38 (byteRow_size _ _) ?_) | (refine wpList_storeR rfl _ _ _ rfl _ _ rfl rfl H2.out size38 (byteRow_size _ _) (byteRow_size _ _) (byteRow_all _ _) ?_))
        refine bodyPost_ret (results_cellB_tmp rfl _ _ _ rfl (H2.out.setRow _) Try.underlying38 rfl size38 (byteRow_size _ _)) rfl ⟨ret_pairP (by rw [Hi.out]) Hc.out.symm, below_row Hb.out (by omega) _⟩
  · have hi : comPl p q = fun _ => 0 := by unfold comPl; rw [if_neg hh]
    have hc : comPlC p q = 1 := by unfold comPlC; rw [if_neg hh]
    have Hi := Lib.hid hi; clear hi; have Hc := Lib.hid hc; clear hc
    cases hp : placesB p with
    | true =>
      have hq : placesB q = false := by cases hq : placesB q with | false => rfl | true => exact absurd ⟨hp, hq⟩ hh
      have hp' := Lib.hid hp; have hq' := Lib.hid hq
      clear hh
      go_enter Try.func34, Try.ntmps34
      go_wp2_with (refine wpList_loadH rfl _ _ rfl _ rfl (by assumption) Try.underlying38 rfl size38 (byteRow_size _ _) ?_)
      refine (l03Perm _ _).mono ?_
      rintro e wx ⟨rfl, hb⟩
      have k0 := carryB k0 hb
      have k1 := carryB k1 hb
      have k2 := carryB k2 hb
      have l := carryS l hb
      clear hb
      go_wp2_with (first | (refine wpList_loadH rfl _ _ rfl _ rfl (by assumption) Try.underlying38 rfl size38 (byteRow_size _ _) ?_) | (refine wpList_loadG rfl _ _ rfl _ rfl (by assumption) Try.underlying38 rfl size38 (byteRow_size _ _) ?_))
      refine (l03Perm _ _).mono ?_
      rintro e wx ⟨rfl, hb⟩
      have k2 := carryB k2 hb
      have l := carryS l hb
      clear hb
      go_wp2_with (first | (refine wpList_buildZ rfl _ rfl builtPlaces ?_) | (refine wpList_storeR rfl _ _ _ rfl _ _ rfl rfl k2.out size38 (byteRow_size _ _) (byteRow_size _ _) (byteRow_all _ _) ?_))
      refine bodyPost_ret (results_cellB_tmp rfl _ _ _ rfl (k2.out.setRow _) Try.underlying38 rfl size38 (byteRow_size _ _)) rfl ⟨ret_pairP (by rw [Hi.out]) Hc.out.symm, below_row l.out (by omega) _⟩
    | false =>
      have hp' := Lib.hid hp
      clear hh
      go_enter Try.func34, Try.ntmps34
      go_wp2_with (first | (refine wpList_loadH rfl _ _ rfl _ rfl (by assumption) Try.underlying38 rfl size38 (byteRow_size _ _) ?_) | (refine wpList_loadG rfl _ _ rfl _ rfl (by assumption) Try.underlying38 rfl size38 (byteRow_size _ _) ?_))
      refine (l03Perm _ _).mono ?_
      rintro e wx ⟨rfl, hb⟩
      have k2 := carryB k2 hb
      have l := carryS l hb
      clear hb
      go_wp2_with (first | (refine wpList_buildZ rfl _ rfl builtPlaces ?_) | (refine wpList_storeR rfl _ _ _ rfl _ _ rfl rfl k2.out size38 (byteRow_size _ _) (byteRow_size _ _) (byteRow_all _ _) ?_))
      refine bodyPost_ret (results_cellB_tmp rfl _ _ _ rfl (k2.out.setRow _) Try.underlying38 rfl size38 (byteRow_size _ _)) rfl ⟨ret_pairP (by rw [Hi.out]) Hc.out.symm, below_row l.out (by omega) _⟩
set_option maxRecDepth 100000 in
set_option maxHeartbeats 1600000 in
theorem implComposePlaces (p q : Nat → UInt8) (w : World) :
    Calls Try.prog 35 #[.agg (byteRow 16 p), .agg (byteRow 16 q)] w fun e w' => e = .returned (.tuple #[.agg (byteRow 16 (comPl p q)), .int .i64 (comPlC p q)]) ∧ Below w.heap.size w w' := by
  have k0 := Lib.hid (((Blk.new w 38 (byteRow 16 p)).alloc (.cells (byteRow 16 q) 38)).alloc (.cells #[.int .u8 0, .int .u8 0, .int .u8 0, .int .u8 0, .int .u8 0, .int .u8 0, .int .u8 0, .int .u8 0, .int .u8 0, .int .u8 0, .int .u8 0, .int .u8 0, .int .u8 0, .int .u8 0, .int .u8 0, .int .u8 0] 38))
  have k1 := Lib.hid ((Blk.newAt (t := 38) (cs := byteRow 16 q) (w := w.alloc (.cells (byteRow 16 p) 38)) (n := w.heap.size + 1) (by simp)).alloc (.cells #[.int .u8 0, .int .u8 0, .int .u8 0, .int .u8 0, .int .u8 0, .int .u8 0, .int .u8 0, .int .u8 0, .int .u8 0, .int .u8 0, .int .u8 0, .int .u8 0, .int .u8 0, .int .u8 0, .int .u8 0, .int .u8 0] 38))
  have k2 := Lib.hid ((Blk.newAt (t := 38) (cs := #[.int .u8 0, .int .u8 0, .int .u8 0, .int .u8 0, .int .u8 0, .int .u8 0, .int .u8 0, .int .u8 0, .int .u8 0, .int .u8 0, .int .u8 0, .int .u8 0, .int .u8 0, .int .u8 0, .int .u8 0, .int .u8 0]) (w := (w.alloc (.cells (byteRow 16 p) 38)).alloc (.cells (byteRow 16 q) 38)) (n := w.heap.size + 1 + 1) (by simp)).eq_ zero16)
  have l := Lib.hid ((((Below.refl w.heap.size w).alloc (Nat.le_refl _) (.cells (byteRow 16 p) 38)).alloc (by simp) (.cells (byteRow 16 q) 38)).alloc (by simp; omega) (.cells #[.int .u8 0, .int .u8 0, .int .u8 0, .int .u8 0, .int .u8 0, .int .u8 0, .int .u8 0, .int .u8 0, .int .u8 0, .int .u8 0, .int .u8 0, .int .u8 0, .int .u8 0, .int .u8 0, .int .u8 0, .int .u8 0] 38))
  by_cases hh : placesB p = true ∧ placesB q = true
  · have hi : comPl p q = pick p q := by unfold comPl; rw [if_pos hh]
    have hc : comPlC p q = 0 := by unfold comPlC; rw [if_pos hh]
    obtain ⟨hp, hq⟩ := hh
    have hs := (places_of hq).1
    have hp' := Lib.hid hp; have hq' := Lib.hid hq
    have Hi := Lib.hid hi; clear hi; have Hc := Lib.hid hc; clear hc
    go_enter Try.func35, Try.ntmps35
    go_wp2_with (refine wpList_loadH rfl _ _ rfl _ rfl (by assumption) Try.underlying38 rfl size38 (byteRow_size _ _) ?_)
    refine (implArePlaces _ _).mono ?_
    rintro e wx ⟨rfl, hb⟩
    have k0 := carryB k0 hb
    have k1 := carryB k1 hb
    have k2 := carryB k2 hb
    have l := carryS l hb
    clear hb
    go_wp2_with (first | (refine wpList_loadH rfl _ _ rfl _ rfl (by assumption) Try.underlying38 rfl size38 (byteRow_size _ _) ?_) | (refine wpList_loadG rfl _ _ rfl _ rfl (by assumption) Try.underlying38 rfl size38 (byteRow_size _ _) ?_))
    refine (implArePlaces _ _).mono ?_
    rintro e wx ⟨rfl, hb⟩
    have k0 := carryB k0 hb
    have k1 := carryB k1 hb
    have k2 := carryB k2 hb
    have l := carryS l hb
    clear hb
    obtain ⟨ws, hws⟩ : ∃ ws : World, ws = wx := ⟨_, rfl⟩
    subst hws
    have hgx := k2.out.lt
    go_wp2_with (first | (refine wpList_buildZ rfl _ rfl builtPlaces ?_) | (refine wpList_storeNew rfl _ _ _ rfl _ rfl rfl zero16 size38 (byteRow_size _ _) (byteRow_size _ _) (byteRow_all _ _) ?_; intro wy kr hb; have k0 := carryB k0 hb; have k1 := carryB k1 hb; have k2 := carryB k2 hb; have l := carryS l hb; have kr := Lib.hid kr; clear hb) | (refine wpList_loadH rfl _ _ rfl _ rfl (by assumption) Try.underlying38 rfl size38 (byteRow_size _ _) ?_))
    try simp only [Act.put]
    go_loopw [20] (fun i wr => ∃ k : Nat, k ≤ 16 ∧ i = .int .i64 k ∧ Blk wr w.heap.size 38 (byteRow 16 p) ∧ Blk wr (w.heap.size + 1) 38 (byteRow 16 q) ∧ Blk wr (w.heap.size + 1 + 1) 38 (byteRow 16 (fun _ => 0)) ∧ Blk wr ws.heap.size 38 (byteRow 16 (fun i => if i < k then pick p q i else 0)) ∧ Below w.heap.size w wr)
      (fun i _ => 16 - (intOf i).toNat)
    case atStart => exact ⟨0, by omega, rfl, k0.out, k1.out, k2.out, kr.out.eq_ (byteRow_none _ _ _), l.out⟩
    case round =>
      obtain ⟨k, hk, rfl, b0, b1, b2, b3, hb⟩ := hrel
      clear k0 k1 k2 kr l
      by_cases hlt : k < 16
      · have hki : (k : Int) < 16 := by omega
        have hqk := hs k hlt
        have hqi : ((q k).toNat : Int) < 16 := by omega
        have c0 := b0.byteAt hqk
        have ix := fun (w : World) => run_index_row (w := w) .i64 Try.underlying38 sizeU1 (.inl Try.underlying5) hlt (byteRow_at q hlt)
        have c3 := b3.byteAt hlt
        have f3 := b3.frozen k
        have H0 := Lib.hid b0; clear b0; have H1 := Lib.hid b1; clear b1; have H2 := Lib.hid b2; clear b2; have H3 := Lib.hid b3; clear b3; have Hb := Lib.hid hb; clear hb
        go_wp2
        go_roundw
        case rel => exact ⟨k + 1, by omega, by go_num, H0.out.farC (by omega) _, H1.out.farC (by omega) _, H2.out.farC (by omega) _, (H3.out.bytePut k (p (q k).toNat)).eq_ (by rw [← upd_fill]; rfl), Hb.out.setCell (p := ⟨ws.heap.size, k, none⟩) (by show w.heap.size ≤ ws.heap.size; omega) _⟩
        case measure => simp [intOf]; omega
      · have b3' := b3.eq_ (byteRow_full (pick p q) _ hlt)
        clear b3
        have H0 := Lib.hid b0; clear b0; have H1 := Lib.hid b1; clear b1; have H2 := Lib.hid b2; clear b2; have H3' := Lib.hid b3'; clear b3'; have Hb := Lib.hid hb; clear hb
        go_wp2_with (first | (refine wpList_loadR rfl _ _ rfl _ rfl H3'.out Try.underlying38 rfl size38 (byteRow_size _ _) ?_) | (refine wpList_storeR rfl _ _ _ rfl _ _ rfl rfl H2.out size38 (byteRow_size _ _) (byteRow_size _ _) (byteRow_all _ _) ?_))
        refine bodyPost_ret (results_cellB_tmp rfl _ _ _ rfl (H2.out.setRow _) Try.underlying38 rfl size38 (byteRow_size _ _)) rfl ⟨ret_pairP (by rw [Hi.out]) Hc.out.symm, below_row Hb.out (by omega) _⟩
  · have hi : comPl p q = fun _ => 0 := by unfold comPl; rw [if_neg hh]
    have hc : comPlC p q = 1 := by unfold comPlC; rw [if_neg hh]
    have Hi := Lib.hid hi; clear hi; have Hc := Lib.hid hc; clear hc
    cases hp : placesB p with
    | true =>
      have hq : placesB q = false := by cases hq : placesB q with | false => rfl | true => exact absurd ⟨hp, hq⟩ hh
      have hp' := Lib.hid hp; have hq' := Lib.hid hq
      clear hh
      go_enter Try.func35, Try.ntmps35
      go_wp2_with (refine wpList_loadH rfl _ _ rfl _ rfl (by assumption) Try.underlying38 rfl size38 (byteRow_size _ _) ?_)
      refine (implArePlaces _ _).mono ?_
      rintro e wx ⟨rfl, hb⟩
      have k0 := carryB k0 hb
      have k1 := carryB k1 hb
      have k2 := carryB k2 hb
      have l := carryS l hb
      clear hb
      go_wp2_with (first | (refine wpList_loadH rfl _ _ rfl _ rfl (by assumption) Try.underlying38 rfl size38 (byteRow_size _ _) ?_) | (refine wpList_loadG rfl _ _ rfl _ rfl (by assumption) Try.underlying38 rfl size38 (byteRow_size _ _) ?_))
      refine (implArePlaces _ _).mono ?_
      rintro e wx ⟨rfl, hb⟩
      have k2 := carryB k2 hb
      have l := carryS l hb
      clear hb
      go_wp2_with (first | (refine wpList_buildZ rfl _ rfl builtPlaces ?_) | (refine wpList_storeR rfl _ _ _ rfl _ _ rfl rfl k2.out size38 (byteRow_size _ _) (byteRow_size _ _) (byteRow_all _ _) ?_))
      refine bodyPost_ret (results_cellB_tmp rfl _ _ _ rfl (k2.out.setRow _) Try.underlying38 rfl size38 (byteRow_size _ _)) rfl ⟨ret_pairP (by rw [Hi.out]) Hc.out.symm, below_row l.out (by omega) _⟩
    | false =>
      have hp' := Lib.hid hp
      clear hh
      go_enter Try.func35, Try.ntmps35
      go_wp2_with (first | (refine wpList_loadH rfl _ _ rfl _ rfl (by assumption) Try.underlying38 rfl size38 (byteRow_size _ _) ?_) | (refine wpList_loadG rfl _ _ rfl _ rfl (by assumption) Try.underlying38 rfl size38 (byteRow_size _ _) ?_))
      refine (implArePlaces _ _).mono ?_
      rintro e wx ⟨rfl, hb⟩
      have k2 := carryB k2 hb
      have l := carryS l hb
      clear hb
      go_wp2_with (first | (refine wpList_buildZ rfl _ rfl builtPlaces ?_) | (refine wpList_storeR rfl _ _ _ rfl _ _ rfl rfl k2.out size38 (byteRow_size _ _) (byteRow_size _ _) (byteRow_all _ _) ?_))
      refine bodyPost_ret (results_cellB_tmp rfl _ _ _ rfl (k2.out.setRow _) Try.underlying38 rfl size38 (byteRow_size _ _)) rfl ⟨ret_pairP (by rw [Hi.out]) Hc.out.symm, below_row l.out (by omega) _⟩
set_option maxRecDepth 100000 in
set_option maxHeartbeats 1600000 in
theorem l03Move (p q : Nat → UInt8) (hs : SmallTo p 16) (w : World) :
    Calls Try.prog 67 #[.agg (byteRow 16 p), .agg (byteRow 16 q)] w fun e w' => e = .returned (.agg (byteRow 16 (pick q p))) ∧ Below w.heap.size w w' := by
  go_enter Try.func67, Try.ntmps67
  go_wp2_with (first | (refine wpList_buildZ rfl _ rfl builtBlk ?_) | (refine wpList_storeR rfl _ _ _ rfl _ _ rfl rfl ((Blk.newAt (by simp)).eq_ zero16) size48 (byteRow_size _ _) (byteRow_size _ _) (byteRow_all _ _) ?_))
  go_loopw [6] (fun i wr => ∃ k : Nat, k ≤ 16 ∧ i = .int .i64 k ∧ Blk wr w.heap.size 38 (byteRow 16 p) ∧ Blk wr (w.heap.size + 1) 48 (byteRow 16 q) ∧ Blk wr (w.heap.size + 1 + 1) 48 (byteRow 16 (fun _ => 0)) ∧ Blk wr (w.heap.size + 1 + 1 + 1) 48 (byteRow 16 (fun i => if i < k then pick q p i else 0)) ∧ Below w.heap.size w wr)
    (fun i _ => 16 - (intOf i).toNat)
  case atStart =>
    rw [zero16]
    exact ⟨0, by omega, rfl, ((((Blk.new w _ _).alloc _).alloc _).alloc _).rowFar (by omega) _, (((Blk.newAt (w := w.alloc _) (by simp)).alloc _).alloc _).rowFar (by omega) _, ((Blk.newAt (w := (w.alloc _).alloc _) (by simp)).alloc _).rowFar (by omega) _, ((Blk.newAt (w := ((w.alloc _).alloc _).alloc _) (by simp)).setRow _).eq_ (byteRow_none _ _ _), below_row (((((Below.refl _ _).alloc (by omega) _).alloc (by simp) _).alloc (by simp; omega) _).alloc (by simp; omega) _) (by omega) _⟩
  case round =>
    obtain ⟨k, hk, rfl, b0, b1, b2, b3, hb⟩ := hrel
    by_cases hlt : k < 16
    · have hki : (k : Int) < 16 := by omega
      have hqk := hs k hlt
      have hqi : ((p k).toNat : Int) < 16 := by omega
      have c0 := b1.byteAt hqk
      have c1 := b0.byteAt hlt
      have c3 := b3.byteAt hlt
      have f3 := b3.frozen k
      have H0 := Lib.hid b0; clear b0; have H1 := Lib.hid b1; clear b1; have H2 := Lib.hid b2; clear b2; have H3 := Lib.hid b3; clear b3; have Hb := Lib.hid hb; clear hb
      go_wp2
      go_roundw
      case rel => exact ⟨k + 1, by omega, by go_num, H0.out.farC (by omega) _, H1.out.farC (by omega) _, H2.out.farC (by omega) _, (H3.out.bytePut k (q (p k).toNat)).eq_ (by rw [← upd_fill]; rfl), Hb.out.setCell (p := ⟨w.heap.size + 1 + 1 + 1, k, none⟩) (by show w.heap.size ≤ w.heap.size + 1 + 1 + 1; omega) _⟩
      case measure => simp [intOf]; omega
    · have b3' := b3.eq_ (byteRow_full (pick q p) _ hlt)
      clear b3
      have H0 := Lib.hid b0; clear b0; have H1 := Lib.hid b1; clear b1; have H2 := Lib.hid b2; clear b2; have H3' := Lib.hid b3'; clear b3'; have Hb := Lib.hid hb; clear hb
      go_wp2_with (first | (refine wpList_loadR rfl _ _ rfl _ rfl H3'.out Try.underlying48 rfl size48 (byteRow_size _ _) ?_) | (refine wpList_storeR rfl _ _ _ rfl _ _ rfl rfl H2.out size48 (byteRow_size _ _) (byteRow_size _ _) (byteRow_all _ _) ?_))
      refine bodyPost_ret (results_cellB rfl _ _ _ rfl (H2.out.setRow _) Try.underlying48 rfl size48 (byteRow_size _ _)) rfl ⟨rfl, below_row Hb.out (by omega) _⟩
set_option maxRecDepth 100000 in
set_option maxHeartbeats 1600000 in
theorem placesMove (p q : Nat → UInt8) (hs : SmallTo p 16) (w : World) :
    Calls Try.prog 68 #[.agg (byteRow 16 p), .agg (byteRow 16 q)] w fun e w' => e = .returned (.agg (byteRow 16 (pick q p))) ∧ Below w.heap.size w w' := by
  go_enter Try.func68, Try.ntmps68
  go_wp2_with (first | (refine wpList_buildZ rfl _ rfl builtBlk ?_) | (refine wpList_storeR rfl _ _ _ rfl _ _ rfl rfl ((Blk.newAt (by simp)).eq_ zero16) size48 (byteRow_size _ _) (byteRow_size _ _) (byteRow_all _ _) ?_) | (refine wpList_loadR rfl _ _ rfl _ rfl (((((Blk.new w _ _).alloc _).alloc _).alloc _).rowFar (by omega) _) Try.underlying38 rfl size38 (byteRow_size _ _) ?_))
  go_loopw [10] (fun i wr => ∃ k : Nat, k ≤ 16 ∧ i = .int .i64 k ∧ Blk wr w.heap.size 38 (byteRow 16 p) ∧ Blk wr (w.heap.size + 1) 48 (byteRow 16 q) ∧ Blk wr (w.heap.size + 1 + 1) 48 (byteRow 16 (fun _ => 0)) ∧ Blk wr (w.heap.size + 1 + 1 + 1) 48 (byteRow 16 (fun i => if i < k then pick q p i else 0)) ∧ Below w.heap.size w wr)
    (fun i _ => 16 - (intOf i).toNat)
  case atStart =>
    rw [zero16]
    exact ⟨0, by omega, rfl, ((((Blk.new w _ _).alloc _).alloc _).alloc _).rowFar (by omega) _, (((Blk.newAt (w := w.alloc _) (by simp)).alloc _).alloc _).rowFar (by omega) _, ((Blk.newAt (w := (w.alloc _).alloc _) (by simp)).alloc _).rowFar (by omega) _, ((Blk.newAt (w := ((w.alloc _).alloc _).alloc _) (by simp)).setRow _).eq_ (byteRow_none _ _ _), below_row (((((Below.refl _ _).alloc (by omega) _).alloc (by simp) _).alloc (by simp; omega) _).alloc (by simp; omega) _) (by omega) _⟩
  case round =>
    obtain ⟨k, hk, rfl, b0, b1, b2, b3, hb⟩ := hrel
    by_cases hlt : k < 16
    · have hki : (k : Int) < 16 := by omega
      have hqk := hs k hlt
      have hqi : ((p k).toNat : Int) < 16 := by omega
      have c0 := b1.byteAt hqk
      have ix := fun (w : World) => run_index_row (w := w) .i64 Try.underlying38 sizeU1 (.inl Try.underlying5) hlt (byteRow_at p hlt)
      have c3 := b3.byteAt hlt
      have f3 := b3.frozen k
      have H0 := Lib.hid b0; clear b0; have H1 := Lib.hid b1; clear b1; have H2 := Lib.hid b2; clear b2; have H3 := Lib.hid b3; clear b3; have Hb := Lib.hid hb; clear hb
      go_wp2
      go_roundw
      case rel => exact ⟨k + 1, by omega, by go_num, H0.out.farC (by omega) _, H1.out.farC (by omega) _, H2.out.farC (by omega) _, (H3.out.bytePut k (q (p k).toNat)).eq_ (by rw [← upd_fill]; rfl), Hb.out.setCell (p := ⟨w.heap.size + 1 + 1 + 1, k, none⟩) (by show w.heap.size ≤ w.heap.size + 1 + 1 + 1; omega) _⟩
      case measure => simp [intOf]; omega
    · have b3' := b3.eq_ (byteRow_full (pick q p) _ hlt)
      clear b3
      have H0 := Lib.hid b0; clear b0; have H1 := Lib.hid b1; clear b1; have H2 := Lib.hid b2; clear b2; have H3' := Lib.hid b3'; clear b3'; have Hb := Lib.hid hb; clear hb
      go_wp2_with (first | (refine wpList_loadR rfl _ _ rfl _ rfl H3'.out Try.underlying48 rfl size48 (byteRow_size _ _) ?_) | (refine wpList_storeR rfl _ _ _ rfl _ _ rfl rfl H2.out size48 (byteRow_size _ _) (byteRow_size _ _) (byteRow_all _ _) ?_))
      refine bodyPost_ret (results_cellB rfl _ _ _ rfl (H2.out.setRow _) Try.underlying48 rfl size48 (byteRow_size _ _)) rfl ⟨rfl, below_row Hb.out (by omega) _⟩
set_option maxRecDepth 100000 in
set_option maxHeartbeats 1600000 in
theorem specMoveBlock (p q : Nat → UInt8) (w : World) :
    Calls Try.prog 38 #[.agg (byteRow 16 p), .agg (byteRow 16 q)] w fun e w' => e = .returned (.tuple #[.agg (byteRow 16 (movB p q)), .int .i64 (movBC p)]) ∧ Below w.heap.size w w' := by
  have k0 := Lib.hid (((Blk.new w 38 (byteRow 16 p)).alloc (.cells (byteRow 16 q) 48)).alloc (.cells #[.int .u8 0, .int .u8 0, .int .u8 0, .int .u8 0, .int .u8 0, .int .u8 0, .int .u8 0, .int .u8 0, .int .u8 0, .int .u8 0, .int .u8 0, .int .u8 0, .int .u8 0, .int .u8 0, .int .u8 0, .int .u8 0] 48))
  have k1 := Lib.hid ((Blk.newAt (t := 48) (cs := byteRow 16 q) (w := w.alloc (.cells (byteRow 16 p) 38)) (n := w.heap.size + 1) (by simp)).alloc (.cells #[.int .u8 0, .int .u8 0, .int .u8 0, .int .u8 0, .int .u8 0, .int .u8 0, .int .u8 0, .int .u8 0, .int .u8 0, .int .u8 0, .int .u8 0, .int .u8 0, .int .u8 0, .int .u8 0, .int .u8 0, .int .u8 0] 48))
  have k2 := Lib.hid ((Blk.newAt (t := 48) (cs := #[.int .u8 0, .int .u8 0, .int .u8 0, .int .u8 0, .int .u8 0, .int .u8 0, .int .u8 0, .int .u8 0, .int .u8 0, .int .u8 0, .int .u8 0, .int .u8 0, .int .u8 0, .int .u8 0, .int .u8 0, .int .u8 0]) (w := (w.alloc (.cells (byteRow 16 p) 38)).alloc (.cells (byteRow 16 q) 48)) (n := w.heap.size + 1 + 1) (by simp)).eq_ zero16)
  have l := Lib.hid ((((Below.refl w.heap.size w).alloc (Nat.le_refl _) (.cells (byteRow 16 p) 38)).alloc (by simp) (.cells (byteRow 16 q) 48)).alloc (by simp; omega) (.cells #[.int .u8 0, .int .u8 0, .int .u8 0, .int .u8 0, .int .u8 0, .int .u8 0, .int .u8 0, .int .u8 0, .int .u8 0, .int .u8 0, .int .u8 0, .int .u8 0, .int .u8 0, .int .u8 0, .int .u8 0, .int .u8 0] 48))
  cases hp : placesB p with
  | true =>
    have hi : movB p q = pick q p := by unfold movB; rw [hp, if_pos rfl]
    have hc : movBC p = 0 := by unfold movBC; rw [hp, if_pos rfl]
    have hs := (places_of hp).1
    have Hi := Lib.hid hi; clear hi; have Hc := Lib.hid hc; clear hc; have Hs := Lib.hid hs; clear hs
    have hp' := Lib.hid hp
    go_enter Try.func38, Try.ntmps38
    go_wp2_with (first | (refine wpList_loadH rfl _ _ rfl _ rfl (by assumption) Try.underlying38 rfl size38 (byteRow_size _ _) ?_) | (refine wpList_loadH rfl _ _ rfl _ rfl (by assumption) Try.underlying48 rfl size48 (byteRow_size _ _) ?_))
    refine (l03Perm _ _).mono ?_
    rintro e wx ⟨rfl, hb⟩
    have k0 := carryB k0 hb
    have k1 := carryB k1 hb
    have k2 := carryB k2 hb
    have l := carryS l hb
    clear hb
    go_wp2_with (first | (refine wpList_loadH rfl _ _ rfl _ rfl (by assumption) Try.underlying38 rfl size38 (byteRow_size _ _) ?_) | (refine wpList_loadH rfl _ _ rfl _ rfl (by assumption) Try.underlying48 rfl size48 (byteRow_size _ _) ?_))
    refine (l03Move _ _ Hs.out _).mono ?_
    rintro e wx ⟨rfl, hb⟩
    have k2 := carryB k2 hb
    have l := carryS l hb
    clear hb
    go_wp2_with (refine wpList_storeR rfl _ _ _ rfl _ _ rfl rfl k2.out size48 (byteRow_size _ _) (byteRow_size _ _) (byteRow_all _ _) ?_)
    refine bodyPost_ret (results_cellB_tmp rfl _ _ _ rfl (k2.out.setRow _) Try.underlying48 rfl size48 (byteRow_size _ _)) rfl ⟨ret_pairP (by rw [Hi.out]) Hc.out.symm, below_row l.out (by omega) _⟩
  | false =>
    have hi : movB p q = fun _ => 0 := by unfold movB; rw [hp, if_neg (by simp)]
    have hc : movBC p = 1 := by unfold movBC; rw [hp, if_neg (by simp)]
    have Hi := Lib.hid hi; clear hi; have Hc := Lib.hid hc; clear hc
    have hp' := Lib.hid hp
    go_enter Try.func38, Try.ntmps38
    go_wp2_with (first | (refine wpList_loadH rfl _ _ rfl _ rfl (by assumption) Try.underlying38 rfl size38 (byteRow_size _ _) ?_) | (refine wpList_loadH rfl _ _ rfl _ rfl (by assumption) Try.underlying48 rfl size48 (byteRow_size _ _) ?_))
    refine (l03Perm _ _).mono ?_
    rintro e wx ⟨rfl, hb⟩
    have k2 := carryB k2 hb
    have l := carryS l hb
    clear hb
    go_wp2_with (first | (refine wpList_buildZ rfl _ rfl builtBlk ?_) | (refine wpList_storeR rfl _ _ _ rfl _ _ rfl rfl k2.out size48 (byteRow_size _ _) (byteRow_size _ _) (byteRow_all _ _) ?_))
    refine bodyPost_ret (results_cellB_tmp rfl _ _ _ rfl (k2.out.setRow _) Try.underlying48 rfl size48 (byteRow_size _ _)) rfl ⟨ret_pairP (by rw [Hi.out]) Hc.out.symm, below_row l.out (by omega) _⟩
set_option maxRecDepth 100000 in
set_option maxHeartbeats 1600000 in
theorem implMoveBlock (p q : Nat → UInt8) (w : World) :
    Calls Try.prog 40 #[.agg (byteRow 16 p), .agg (byteRow 16 q)] w fun e w' => e = .returned (.tuple #[.agg (byteRow 16 (movB p q)), .int .i64 (movBC p)]) ∧ Below w.heap.size w w' := by
  have k0 := Lib.hid (((Blk.new w 38 (byteRow 16 p)).alloc (.cells (byteRow 16 q) 48)).alloc (.cells #[.int .u8 0, .int .u8 0, .int .u8 0, .int .u8 0, .int .u8 0, .int .u8 0, .int .u8 0, .int .u8 0, .int .u8 0, .int .u8 0, .int .u8 0, .int .u8 0, .int .u8 0, .int .u8 0, .int .u8 0, .int .u8 0] 48))
  have k1 := Lib.hid ((Blk.newAt (t := 48) (cs := byteRow 16 q) (w := w.alloc (.cells (byteRow 16 p) 38)) (n := w.heap.size + 1) (by simp)).alloc (.cells #[.int .u8 0, .int .u8 0, .int .u8 0, .int .u8 0, .int .u8 0, .int .u8 0, .int .u8 0, .int .u8 0, .int .u8 0, .int .u8 0, .int .u8 0, .int .u8 0, .int .u8 0, .int .u8 0, .int .u8 0, .int .u8 0] 48))
  have k2 := Lib.hid ((Blk.newAt (t := 48) (cs := #[.int .u8 0, .int .u8 0, .int .u8 0, .int .u8 0, .int .u8 0, .int .u8 0, .int .u8 0, .int .u8 0, .int .u8 0, .int .u8 0, .int .u8 0, .int .u8 0, .int .u8 0, .int .u8 0, .int .u8 0, .int .u8 0]) (w := (w.alloc (.cells (byteRow 16 p) 38)).alloc (.cells (byteRow 16 q) 48)) (n := w.heap.size + 1 + 1) (by simp)).eq_ zero16)
  have l := Lib.hid ((((Below.refl w.heap.size w).alloc (Nat.le_refl _) (.cells (byteRow 16 p) 38)).alloc (by simp) (.cells (byteRow 16 q) 48)).alloc (by simp; omega) (.cells #[.int .u8 0, .int .u8 0, .int .u8 0, .int .u8 0, .int .u8 0, .int .u8 0, .int .u8 0, .int .u8 0, .int .u8 0, .int .u8 0, .int .u8 0, .int .u8 0, .int .u8 0, .int .u8 0, .int .u8 0, .int .u8 0] 48))
  cases hp : placesB p with
  | true =>
    have hi : movB p q = pick q p := by unfold movB; rw [hp, if_pos rfl]
    have hc : movBC p = 0 := by unfold movBC; rw [hp, if_pos rfl]
    have hs := (places_of hp).1
    have Hi := Lib.hid hi; clear hi; have Hc := Lib.hid hc; clear hc; have Hs := Lib.hid hs; clear hs
    have hp' := Lib.hid hp
    go_enter Try.func40, Try.ntmps40
    go_wp2_with (first | (refine wpList_loadH rfl _ _ rfl _ rfl (by assumption) Try.underlying38 rfl size38 (byteRow_size _ _) ?_) | (refine wpList_loadH rfl _ _ rfl _ rfl (by assumption) Try.underlying48 rfl size48 (byteRow_size _ _) ?_))
    refine (implArePlaces _ _).mono ?_
    rintro e wx ⟨rfl, hb⟩
    have k0 := carryB k0 hb
    have k1 := carryB k1 hb
    have k2 := carryB k2 hb
    have l := carryS l hb
    clear hb
    go_wp2_with (first | (refine wpList_loadH rfl _ _ rfl _ rfl (by assumption) Try.underlying38 rfl size38 (byteRow_size _ _) ?_) | (refine wpList_loadH rfl _ _ rfl _ rfl (by assumption) Try.underlying48 rfl size48 (byteRow_size _ _) ?_))
    refine (placesMove _ _ Hs.out _).mono ?_
    rintro e wx ⟨rfl, hb⟩
    have k2 := carryB k2 hb
    have l := carryS l hb
    clear hb
    go_wp2_with (refine wpList_storeR rfl _ _ _ rfl _ _ rfl rfl k2.out size48 (byteRow_size _ _) (byteRow_size _ _) (byteRow_all _ _) ?_)
    refine bodyPost_ret (results_cellB_tmp rfl _ _ _ rfl (k2.out.setRow _) Try.underlying48 rfl size48 (byteRow_size _ _)) rfl ⟨ret_pairP (by rw [Hi.out]) Hc.out.symm, below_row l.out (by omega) _⟩
  | false =>
    have hi : movB p q = fun _ => 0 := by unfold movB; rw [hp, if_neg (by simp)]
    have hc : movBC p = 1 := by unfold movBC; rw [hp, if_neg (by simp)]
    have Hi := Lib.hid hi; clear hi; have Hc := Lib.hid hc; clear hc
    have hp' := Lib.hid hp
    go_enter Try.func40, Try.ntmps40
    go_wp2_with (first | (refine wpList_loadH rfl _ _ rfl _ rfl (by assumption) Try.underlying38 rfl size38 (byteRow_size _ _) ?_) | (refine wpList_loadH rfl _ _ rfl _ rfl (by assumption) Try.underlying48 rfl size48 (byteRow_size _ _) ?_))
    refine (implArePlaces _ _).mono ?_
    rintro e wx ⟨rfl, hb⟩
    have k2 := carryB k2 hb
    have l := carryS l hb
    clear hb
    go_wp2_with (first | (refine wpList_buildZ rfl _ rfl builtBlk ?_) | (refine wpList_storeR rfl _ _ _ rfl _ _ rfl rfl k2.out size48 (byteRow_size _ _) (byteRow_size _ _) (byteRow_all _ _) ?_))
    refine bodyPost_ret (results_cellB_tmp rfl _ _ _ rfl (k2.out.setRow _) Try.underlying48 rfl size48 (byteRow_size _ _)) rfl ⟨ret_pairP (by rw [Hi.out]) Hc.out.symm, below_row l.out (by omega) _⟩
end Go.Proofs.Ytdhlfbipljelcaa
