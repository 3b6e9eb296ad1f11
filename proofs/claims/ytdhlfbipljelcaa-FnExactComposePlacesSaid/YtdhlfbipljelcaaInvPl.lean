/- Contracts: the inverse of places, by the program and by the reference, and the walk of the law. No condition. -/
import Derived.Test.YtdhlfbipljelcaaRows
import Derived.Test.YtdhlfbipljelcaaLaws
import Derived.Test.YtdhlfbipljelcaaPerm
import Derived.Test.YtdhlfbipljelcaaPlaces
set_option linter.unusedVariables false
namespace Go.Proofs.Ytdhlfbipljelcaa
open Go.RowKit Plain
def invPl (p : Nat → UInt8) : Nat → UInt8 := if placesB p = true then invTo p 16 else fun _ => 0
def invPlC (p : Nat → UInt8) : Int := if placesB p = true then 0 else 1
theorem ret_pairP {a b : Array Value} {n m : Int} (h : a = b) (h2 : n = m) : Ending.returned (.tuple #[.agg a, .int .i64 n]) = .returned (.tuple #[.agg b, .int .i64 m]) := by rw [h, h2]
theorem builtPlaces : Try.prog.built 38 [] = some (byteRow 16 (fun _ => 0)) := by kernel_rfl
set_option maxRecDepth 100000 in
set_option maxHeartbeats 400000 in
theorem l03Turn (b : Nat → UInt8) (hs : SmallTo b 16) (w : World) :
    Calls Try.prog 63 #[.agg (byteRow 16 b)] w fun e w' => e = .returned (.agg (byteRow 16 (invTo b 16))) ∧ Below w.heap.size w w' := by
  go_enter Try.func63, Try.ntmps63
  go_wp2_with (first | (refine wpList_buildZ rfl _ rfl builtPlaces ?_) | (refine wpList_storeR rfl _ _ _ rfl _ _ rfl rfl ((Blk.newAt (by simp)).eq_ zero16) size38 (byteRow_size _ _) (byteRow_size _ _) (byteRow_all _ _) ?_))
  go_loopw [4] (fun i wr => ∃ k : Nat, k ≤ 16 ∧ i = .int .i64 k ∧ Blk wr w.heap.size 38 (byteRow 16 b) ∧ Blk wr (w.heap.size + 1) 38 (byteRow 16 (fun _ => 0)) ∧ Blk wr (w.heap.size + 1 + 1) 38 (byteRow 16 (invTo b k)) ∧ Below w.heap.size w wr)
    (fun i _ => 16 - (intOf i).toNat)
  case atStart =>
    rw [zero16]
    exact ⟨0, by omega, rfl, (((Blk.new w _ _).alloc _).alloc _).rowFar (by omega) _, ((Blk.newAt (w := w.alloc _) (by simp)).alloc _).rowFar (by omega) _,
      (Blk.newAt (w := (w.alloc _).alloc _) (by simp)).setRow _, below_row ((((Below.refl _ _).alloc (by omega) _).alloc (by simp) _).alloc (by simp; omega) _) (by omega) _⟩
  case round =>
    obtain ⟨k, hk, rfl, h0, h1, h2, hb⟩ := hrel
    by_cases hlt : k < 16
    · have c0 := h0.byteAt hlt
      have hbl := hs k hlt
      have hki : (k : Int) < 16 := by omega
      have c2 := h2.byteAt hbl
      have f2 := h2.frozen (b k).toNat
      have H0 := Lib.hid h0; clear h0; have H1 := Lib.hid h1; clear h1; have H2 := Lib.hid h2; clear h2; have Hb := Lib.hid hb; clear hb
      go_wp2
      go_roundw
      case rel => exact ⟨k + 1, by omega, by go_num, H0.out.farC (by omega) _, H1.out.farC (by omega) _, (H2.out.bytePutN (b k).toNat (show k < 256 by omega)).eq_ rfl, Hb.out.setCell (by show _ ≤ _ + 1 + 1; omega) _⟩
      case measure => simp [intOf]; omega
    · obtain rfl : k = 16 := by omega
      have H0 := Lib.hid h0; clear h0; have H1 := Lib.hid h1; clear h1; have H2 := Lib.hid h2; clear h2; have Hb := Lib.hid hb; clear hb
      go_wp2_with (first | (refine wpList_loadR rfl _ _ rfl _ rfl H2.out Try.underlying38 rfl size38 (byteRow_size _ _) ?_) | (refine wpList_storeR rfl _ _ _ rfl _ _ rfl rfl H1.out size38 (byteRow_size _ _) (byteRow_size _ _) (byteRow_all _ _) ?_))
      refine bodyPost_ret (results_cellB rfl _ _ _ rfl (H1.out.setRow _) Try.underlying38 rfl size38 (byteRow_size _ _)) rfl ⟨rfl, below_row Hb.out (by omega) _⟩
set_option maxRecDepth 100000 in
set_option maxHeartbeats 400000 in
theorem placesInverse (b : Nat → UInt8) (hs : SmallTo b 16) (w : World) :
    Calls Try.prog 65 #[.agg (byteRow 16 b)] w fun e w' => e = .returned (.agg (byteRow 16 (invTo b 16))) ∧ Below w.heap.size w w' := by
  go_enter Try.func65, Try.ntmps65
  go_wp2_with (first | (refine wpList_buildZ rfl _ rfl builtPlaces ?_) | (refine wpList_storeR rfl _ _ _ rfl _ _ rfl rfl ((Blk.newAt (by simp)).eq_ zero16) size38 (byteRow_size _ _) (byteRow_size _ _) (byteRow_all _ _) ?_) | (refine wpList_loadR rfl _ _ rfl _ rfl ((((Blk.new w _ _).alloc _).alloc _).rowFar (by omega) _) Try.underlying38 rfl size38 (byteRow_size _ _) ?_))
  go_loopw [8] (fun i wr => ∃ k : Nat, k ≤ 16 ∧ i = .int .i64 k ∧ Blk wr (w.heap.size + 1) 38 (byteRow 16 (fun _ => 0)) ∧ Blk wr (w.heap.size + 1 + 1) 38 (byteRow 16 (invTo b k)) ∧ Below w.heap.size w wr)
    (fun i _ => 16 - (intOf i).toNat)
  case atStart =>
    rw [zero16]
    exact ⟨0, by omega, rfl, ((Blk.newAt (w := w.alloc _) (by simp)).alloc _).rowFar (by omega) _,
      (Blk.newAt (w := (w.alloc _).alloc _) (by simp)).setRow _, below_row ((((Below.refl _ _).alloc (by omega) _).alloc (by simp) _).alloc (by simp; omega) _) (by omega) _⟩
  case round =>
    obtain ⟨k, hk, rfl, h1, h2, hb⟩ := hrel
    by_cases hlt : k < 16
    · have hbl := hs k hlt
      have hki : (k : Int) < 16 := by omega
      have hbi : ((b k).toNat : Int) < 16 := by omega
      have c2 := h2.byteAt hbl
      have f2 := h2.frozen (b k).toNat
      have ix := fun (w : World) => run_index_row (w := w) .i64 Try.underlying38 sizeU1 (.inl Try.underlying5) hlt (byteRow_at b hlt)
      have H1 := Lib.hid h1; clear h1; have H2 := Lib.hid h2; clear h2; have Hb := Lib.hid hb; clear hb
      go_wp2
      go_roundw
      case rel => exact ⟨k + 1, by omega, by go_num, H1.out.farC (by omega) _, (H2.out.bytePutN (b k).toNat (show k < 256 by omega)).eq_ rfl, Hb.out.setCell (by show _ ≤ _ + 1 + 1; omega) _⟩
      case measure => simp [intOf]; omega
    · obtain rfl : k = 16 := by omega
      have H1 := Lib.hid h1; clear h1; have H2 := Lib.hid h2; clear h2; have Hb := Lib.hid hb; clear hb
      go_wp2_with (first | (refine wpList_loadR rfl _ _ rfl _ rfl H2.out Try.underlying38 rfl size38 (byteRow_size _ _) ?_) | (refine wpList_storeR rfl _ _ _ rfl _ _ rfl rfl H1.out size38 (byteRow_size _ _) (byteRow_size _ _) (byteRow_all _ _) ?_))
      refine bodyPost_ret (results_cellB rfl _ _ _ rfl (H1.out.setRow _) Try.underlying38 rfl size38 (byteRow_size _ _)) rfl ⟨rfl, below_row Hb.out (by omega) _⟩
set_option maxRecDepth 100000 in
set_option maxHeartbeats 400000 in
theorem specInversePlaces (b : Nat → UInt8) (w : World) :
    Calls Try.prog 30 #[.agg (byteRow 16 b)] w fun e w' => e = .returned (.tuple #[.agg (byteRow 16 (invPl b)), .int .i64 (invPlC b)]) ∧ Below w.heap.size w w' := by
  have k0 := Lib.hid ((Blk.new w 38 (byteRow 16 b)).alloc (.cells #[.int .u8 0, .int .u8 0, .int .u8 0, .int .u8 0, .int .u8 0, .int .u8 0, .int .u8 0, .int .u8 0, .int .u8 0, .int .u8 0, .int .u8 0, .int .u8 0, .int .u8 0, .int .u8 0, .int .u8 0, .int .u8 0] 38))
  have k1 := Lib.hid ((Blk.newAt (t := 38) (cs := #[.int .u8 0, .int .u8 0, .int .u8 0, .int .u8 0, .int .u8 0, .int .u8 0, .int .u8 0, .int .u8 0, .int .u8 0, .int .u8 0, .int .u8 0, .int .u8 0, .int .u8 0, .int .u8 0, .int .u8 0, .int .u8 0]) (w := w.alloc (.cells (byteRow 16 b) 38)) (n := w.heap.size + 1) (by simp)).eq_ zero16)
  have l := Lib.hid ((((Below.refl w.heap.size w).alloc (Nat.le_refl _) (.cells (byteRow 16 b) 38)).alloc (by simp) (.cells #[.int .u8 0, .int .u8 0, .int .u8 0, .int .u8 0, .int .u8 0, .int .u8 0, .int .u8 0, .int .u8 0, .int .u8 0, .int .u8 0, .int .u8 0, .int .u8 0, .int .u8 0, .int .u8 0, .int .u8 0, .int .u8 0] 38)))
  cases hp : placesB b with
  | true =>
    have hi : invPl b = invTo b 16 := by unfold invPl; rw [hp, if_pos rfl]
    have hc : invPlC b = 0 := by unfold invPlC; rw [hp, if_pos rfl]
    have hs := (places_of hp).1
    have Hi := Lib.hid hi; clear hi; have Hc := Lib.hid hc; clear hc; have Hs := Lib.hid hs; clear hs
    have hp' := Lib.hid hp
    go_enter Try.func30, Try.ntmps30
    go_wp2_with (refine wpList_loadH rfl _ _ rfl _ rfl (by assumption) Try.underlying38 rfl size38 (byteRow_size _ _) ?_)
    refine (l03Perm _ _).mono ?_
    rintro e wx ⟨rfl, hb⟩
    have k0 := carryB k0 hb
    have k1 := carryB k1 hb
    have l := carryS l hb
    clear hb
    go_wp2_with (refine wpList_loadH rfl _ _ rfl _ rfl (by assumption) Try.underlying38 rfl size38 (byteRow_size _ _) ?_)
    refine (l03Turn _ Hs.out _).mono ?_
    rintro e wx ⟨rfl, hb⟩
    have k1 := carryB k1 hb
    have l := carryS l hb
    clear hb
    go_wp2_with (refine wpList_storeR rfl _ _ _ rfl _ _ rfl rfl k1.out size38 (byteRow_size _ _) (byteRow_size _ _) (byteRow_all _ _) ?_)
    refine bodyPost_ret (results_cellB_tmp rfl _ _ _ rfl (k1.out.setRow _) Try.underlying38 rfl size38 (byteRow_size _ _)) rfl ⟨ret_pairP (by rw [Hi.out]) Hc.out.symm, below_row l.out (by omega) _⟩
  | false =>
    have hi : invPl b = fun _ => 0 := by unfold invPl; rw [hp, if_neg (by simp)]
    have hc : invPlC b = 1 := by unfold invPlC; rw [hp, if_neg (by simp)]
    have Hi := Lib.hid hi; clear hi; have Hc := Lib.hid hc; clear hc
    have hp' := Lib.hid hp
    go_enter Try.func30, Try.ntmps30
    go_wp2_with (refine wpList_loadH rfl _ _ rfl _ rfl (by assumption) Try.underlying38 rfl size38 (byteRow_size _ _) ?_)
    refine (l03Perm _ _).mono ?_
    rintro e wx ⟨rfl, hb⟩
    have k0 := carryB k0 hb
    have k1 := carryB k1 hb
    have l := carryS l hb
    clear hb
    go_wp2_with (first | (refine wpList_buildZ rfl _ rfl builtPlaces ?_) | (refine wpList_storeR rfl _ _ _ rfl _ _ rfl rfl k1.out size38 (byteRow_size _ _) (byteRow_size _ _) (byteRow_all _ _) ?_))
    refine bodyPost_ret (results_cellB_tmp rfl _ _ _ rfl (k1.out.setRow _) Try.underlying38 rfl size38 (byteRow_size _ _)) rfl ⟨ret_pairP (by rw [Hi.out]) Hc.out.symm, below_row l.out (by omega) _⟩
set_option maxRecDepth 100000 in
set_option maxHeartbeats 400000 in
theorem implInversePlaces (b : Nat → UInt8) (w : World) :
    Calls Try.prog 32 #[.agg (byteRow 16 b)] w fun e w' => e = .returned (.tuple #[.agg (byteRow 16 (invPl b)), .int .i64 (invPlC b)]) ∧ Below w.heap.size w w' := by
  have k0 := Lib.hid ((Blk.new w 38 (byteRow 16 b)).alloc (.cells #[.int .u8 0, .int .u8 0, .int .u8 0, .int .u8 0, .int .u8 0, .int .u8 0, .int .u8 0, .int .u8 0, .int .u8 0, .int .u8 0, .int .u8 0, .int .u8 0, .int .u8 0, .int .u8 0, .int .u8 0, .int .u8 0] 38))
  have k1 := Lib.hid ((Blk.newAt (t := 38) (cs := #[.int .u8 0, .int .u8 0, .int .u8 0, .int .u8 0, .int .u8 0, .int .u8 0, .int .u8 0, .int .u8 0, .int .u8 0, .int .u8 0, .int .u8 0, .int .u8 0, .int .u8 0, .int .u8 0, .int .u8 0, .int .u8 0]) (w := w.alloc (.cells (byteRow 16 b) 38)) (n := w.heap.size + 1) (by simp)).eq_ zero16)
  have l := Lib.hid ((((Below.refl w.heap.size w).alloc (Nat.le_refl _) (.cells (byteRow 16 b) 38)).alloc (by simp) (.cells #[.int .u8 0, .int .u8 0, .int .u8 0, .int .u8 0, .int .u8 0, .int .u8 0, .int .u8 0, .int .u8 0, .int .u8 0, .int .u8 0, .int .u8 0, .int .u8 0, .int .u8 0, .int .u8 0, .int .u8 0, .int .u8 0] 38)))
  cases hp : placesB b with
  | true =>
    have hi : invPl b = invTo b 16 := by unfold invPl; rw [hp, if_pos rfl]
    have hc : invPlC b = 0 := by unfold invPlC; rw [hp, if_pos rfl]
    have hs := (places_of hp).1
    have Hi := Lib.hid hi; clear hi; have Hc := Lib.hid hc; clear hc; have Hs := Lib.hid hs; clear hs
    have hp' := Lib.hid hp
    go_enter Try.func32, Try.ntmps32
    go_wp2_with (refine wpList_loadH rfl _ _ rfl _ rfl (by assumption) Try.underlying38 rfl size38 (byteRow_size _ _) ?_)
    refine (implArePlaces _ _).mono ?_
    rintro e wx ⟨rfl, hb⟩
    have k0 := carryB k0 hb
    have k1 := carryB k1 hb
    have l := carryS l hb
    clear hb
    go_wp2_with (refine wpList_loadH rfl _ _ rfl _ rfl (by assumption) Try.underlying38 rfl size38 (byteRow_size _ _) ?_)
    refine (placesInverse _ Hs.out _).mono ?_
    rintro e wx ⟨rfl, hb⟩
    have k1 := carryB k1 hb
    have l := carryS l hb
    clear hb
    go_wp2_with (refine wpList_storeR rfl _ _ _ rfl _ _ rfl rfl k1.out size38 (byteRow_size _ _) (byteRow_size _ _) (byteRow_all _ _) ?_)
    refine bodyPost_ret (results_cellB_tmp rfl _ _ _ rfl (k1.out.setRow _) Try.underlying38 rfl size38 (byteRow_size _ _)) rfl ⟨ret_pairP (by rw [Hi.out]) Hc.out.symm, below_row l.out (by omega) _⟩
  | false =>
    have hi : invPl b = fun _ => 0 := by unfold invPl; rw [hp, if_neg (by simp)]
    have hc : invPlC b = 1 := by unfold invPlC; rw [hp, if_neg (by simp)]
    have Hi := Lib.hid hi; clear hi; have Hc := Lib.hid hc; clear hc
    have hp' := Lib.hid hp
    go_enter Try.func32, Try.ntmps32
    go_wp2_with (refine wpList_loadH rfl _ _ rfl _ rfl (by assumption) Try.underlying38 rfl size38 (byteRow_size _ _) ?_)
    refine (implArePlaces _ _).mono ?_
    rintro e wx ⟨rfl, hb⟩
    have k0 := carryB k0 hb
    have k1 := carryB k1 hb
    have l := carryS l hb
    clear hb
    go_wp2_with (first | (refine wpList_buildZ rfl _ rfl builtPlaces ?_) | (refine wpList_storeR rfl _ _ _ rfl _ _ rfl rfl k1.out size38 (byteRow_size _ _) (byteRow_size _ _) (byteRow_all _ _) ?_))
    refine bodyPost_ret (results_cellB_tmp rfl _ _ _ rfl (k1.out.setRow _) Try.underlying38 rfl size38 (byteRow_size _ _)) rfl ⟨ret_pairP (by rw [Hi.out]) Hc.out.symm, below_row l.out (by omega) _⟩
set_option maxRecDepth 100000 in
set_option maxHeartbeats 800000 in
theorem fnExactInversePlaces.walk (b : Nat → UInt8) (w : World) :
    Calls Try.prog 8 #[.agg (byteRow 16 b)] w fun e w' => e = .returned (.bool true) ∧ Below w.heap.size w w' := by
  go_enter Try.func8, Try.ntmps8
  have k0 := Lib.hid (Blk.new w 37 (byteRow 16 b))
  have l := Lib.hid ((Below.refl w.heap.size w).alloc (Nat.le_refl _) (.cells (byteRow 16 b) 37))
  go_wp2_with (refine wpList_loadH rfl _ _ rfl _ rfl (by assumption) Try.underlying37 rfl size37 (byteRow_size _ _) ?_)
  refine (toPlaces _ _).mono ?_
  rintro e wx ⟨rfl, hb⟩
  have k0 := carryB k0 hb
  have l := carryS l hb
  clear hb
  go_wp2_with (refine wpList_loadH rfl _ _ rfl _ rfl (by assumption) Try.underlying37 rfl size37 (byteRow_size _ _) ?_)
  refine (specInversePlaces _ _).mono ?_
  rintro e wx ⟨rfl, hb⟩
  have k0 := carryB k0 hb
  have l := carryS l hb
  clear hb
  go_wp2_with (first | (refine wpList_loadH rfl _ _ rfl _ rfl (by assumption) Try.underlying37 rfl size37 (byteRow_size _ _) ?_) | (refine wpList_storeNew rfl _ _ _ rfl _ rfl rfl zero16 size38 (byteRow_size _ _) (byteRow_size _ _) (byteRow_all _ _) ?_; intro wy kr hb; have k0 := carryB k0 hb; have l := carryS l hb; have kr := Lib.hid kr; clear hb))
  refine (toPlaces _ _).mono ?_
  rintro e wx ⟨rfl, hb⟩
  have k0 := carryB k0 hb
  have kr := carryB kr hb
  have l := carryS l hb
  clear hb
  go_wp2_with (refine wpList_loadH rfl _ _ rfl _ rfl (by assumption) Try.underlying37 rfl size37 (byteRow_size _ _) ?_)
  refine (implInversePlaces _ _).mono ?_
  rintro e wx ⟨rfl, hb⟩
  have k0 := carryB k0 hb
  have kr := carryB kr hb
  have l := carryS l hb
  clear hb
  go_wp2_with (first | (refine wpList_loadH rfl _ _ rfl _ rfl (by assumption) Try.underlying38 rfl size38 (byteRow_size _ _) ?_) | (refine wpList_storeNew rfl _ _ _ rfl _ rfl rfl zero16 size38 (byteRow_size _ _) (byteRow_size _ _) (byteRow_all _ _) ?_; intro wy ks hb; have k0 := carryB k0 hb; have kr := carryB kr hb; have l := carryS l hb; have ks := Lib.hid ks; clear hb))
  refine (eqPlaces _ _).mono ?_
  rintro e wx ⟨rfl, hb⟩
  have l := carryS l hb
  clear hb
  go_wp2_with fail
  go_ret
  exact ⟨rfl, l.out⟩
end Go.Proofs.Ytdhlfbipljelcaa
