/- Contracts: permutations of 256 values, and their inverses, by the program and by the reference. No condition. -/
import Derived.Test.YtphfiekhpicpgaaTypes
import Derived.Test.YtphfiekhpicpgaaPlain
namespace Go.Proofs.Ytphfiekhpicpgaa
open Go.RowKit Plain
theorem builtBool : Try.prog.built 105 [] = some (boolRow 256 (fun _ => false)) := by kernel_rfl
theorem zeroBool : Try.zeroCells105 = boolRow 256 (fun _ => false) := by kernel_rfl
theorem sizeB1 : (Try.prog.info? 4).map (·.size) = some 1 := by kernel_rfl
theorem sizeU1 : (Try.prog.info? 5).map (·.size) = some 1 := by kernel_rfl
theorem builtBox : Try.prog.built 27 [] = some (byteRow 256 (fun _ => 0)) := by kernel_rfl

theorem metRow_put {w : World} {g t n : Nat} {b : Nat → UInt8} {k : Nat} (h : Blk w g t (boolRow n (metB b k))) :
    Blk (w.setCell ⟨g, (b k).toNat, none⟩ (.bool true)) g t (boolRow n (metB b (k + 1))) :=
  (h.boolPut _ true).eq_ (boolRow_congr fun i _ => by
    unfold upd
    by_cases hi : i = (b k).toNat
    · subst hi; simp [metB]
    · have hi' : ¬ (b k).toNat = i := fun e => hi e.symm
      simp [hi, hi', metB])
set_option maxRecDepth 100000 in
set_option maxHeartbeats 400000 in
theorem l02Is (b : Nat → UInt8) (w : World) :
    Calls Try.prog 82 #[.agg (byteRow 256 b)] w fun e w' => e = .returned (.bool (permB b)) ∧ Below w.heap.size w w' := by
  go_enter Try.func82, Try.ntmps82
  go_wp2_with (first | (refine wpList_buildZ rfl _ rfl builtBool ?_) | (refine wpList_storeR rfl _ _ _ rfl _ _ rfl rfl ((Blk.newAt (by simp)).eq_ zeroBool) size105 (boolRow_size _ _) (boolRow_size _ _) (boolRow_all _ _) ?_))
  go_loopw [4] (fun i wr => ∃ k : Nat, k ≤ 256 ∧ i = .int .i64 k ∧ Blk wr w.heap.size 27 (byteRow 256 b) ∧ Blk wr (w.heap.size + 1) 105 (boolRow 256 (metB b k)) ∧ DistTo b k ∧ Below w.heap.size w wr)
    (fun i _ => 256 - (intOf i).toNat)
  case atStart =>
    exact ⟨0, by omega, rfl, ((Blk.new w _ _).alloc _).rowFar (by omega) _, (Blk.newAt (w := w.alloc _) (by simp)).setRow _, dist_zero b, below_row (((Below.refl _ _).alloc (by omega) _).alloc (by simp) _) (by omega) _⟩
  case round =>
    obtain ⟨k, hk, rfl, h0, h1, hd, hb⟩ := hrel
    by_cases hlt : k < 256
    · have c0 := h0.byteAt hlt
      have hbl := (b k).toNat_lt
      have c1 := h1.boolAt hbl
      have f1 := h1.frozen (b k).toNat
      cases hm : metB b k (b k).toNat with
      | true =>
        rw [hm] at c1
        have hp := permB_false (not_perm_of_met hlt hm)
        clear hm
        have H0 := Lib.hid h0; clear h0; have H1 := Lib.hid h1; clear h1; have Hd := Lib.hid hd; clear hd; have Hb := Lib.hid hb; clear hb; have Hp := Lib.hid hp; clear hp
        go_wp2
        go_ret
        exact ⟨ret_bool Hp.out.symm, Hb.out⟩
      | false =>
        rw [hm] at c1
        have H0 := Lib.hid h0; clear h0; have H1 := Lib.hid h1; clear h1; have Hd := Lib.hid hd; clear hd; have Hb := Lib.hid hb; clear hb; have Hm := Lib.hid hm; clear hm
        go_wp2
        go_roundw
        case rel => exact ⟨k + 1, by omega, by go_num, H0.out.farC (by omega) _, metRow_put H1.out, dist_succ Hd.out Hm.out, Hb.out.setCell (by show _ ≤ _ + 1; omega) _⟩
        case measure => simp [intOf]; omega
    · obtain rfl : k = 256 := by omega
      have hp := permB_true (perm_of_dist hd)
      have H0 := Lib.hid h0; clear h0; have H1 := Lib.hid h1; clear h1; have Hd := Lib.hid hd; clear hd; have Hb := Lib.hid hb; clear hb; have Hp := Lib.hid hp; clear hp
      go_wp2
      go_ret
      exact ⟨ret_bool Hp.out.symm, Hb.out⟩
set_option maxRecDepth 100000 in
set_option maxHeartbeats 400000 in
theorem specIsPermutation (b : Nat → UInt8) (w : World) :
    Calls Try.prog 48 #[.agg (byteRow 256 b)] w fun e w' => e = .returned (.bool (permB b)) ∧ Below w.heap.size w w' := by
  go_enter Try.func48, Try.ntmps48
  go_wp2_with (first | (refine wpList_loadR rfl _ _ rfl _ rfl (Blk.new w _ _) Try.underlying27 rfl size27 (byteRow_size _ _) ?_) | (go_at_call 82; refine (l02Is _ _).mono ?_; rintro e w1 ⟨rfl, hb⟩))
  go_ret
  exact ⟨rfl, ((Below.refl _ _).alloc (Nat.le_refl _) _).trans (hb.mono (by simp))⟩
end Go.Proofs.Ytphfiekhpicpgaa
