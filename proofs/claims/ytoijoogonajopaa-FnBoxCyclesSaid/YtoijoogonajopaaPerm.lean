/- Contracts: permutations of 256 values, and their inverses, by the program and by the reference. No condition. -/
import Derived.Test.YtoijoogonajopaaTypes
import Derived.Test.YtoijoogonajopaaPlain
namespace Go.Proofs.Ytoijoogonajopaa
open Go.RowKit Plain
theorem builtBool : Try.prog.built 46 [] = some (boolRow 256 (fun _ => false)) := by kernel_rfl
theorem zeroBool : Try.zeroCells46 = boolRow 256 (fun _ => false) := by kernel_rfl
theorem sizeB1 : (Try.prog.info? 4).map (·.size) = some 1 := by kernel_rfl
theorem builtBox : Try.prog.built 25 [] = some (byteRow 256 (fun _ => 0)) := by kernel_rfl
theorem sizeU1 : (Try.prog.info? 5).map (·.size) = some 1 := by kernel_rfl
theorem metRow_put {w : World} {g t n : Nat} {b : Nat → UInt8} {k : Nat} (h : Blk w g t (boolRow n (metB b k))) :
    Blk (w.setCell ⟨g, (b k).toNat, none⟩ (.bool true)) g t (boolRow n (metB b (k + 1))) :=
  (h.boolPut _ true).eq_ (boolRow_congr fun i _ => by
    unfold upd
    by_cases hi : i = (b k).toNat
    · subst hi; simp [metB]
    · have hi' : ¬ (b k).toNat = i := fun e => hi e.symm
      simp [hi, hi', metB])
set_option maxRecDepth 100000 in
set_option maxHeartbeats 400000 in
theorem l02Is (b : Nat → UInt8) (w : World) :
    Calls Try.prog 21 #[.agg (byteRow 256 b)] w fun e w' => e = .returned (.bool (permB b)) ∧ Below w.heap.size w w' := by
  go_enter Try.func21, Try.ntmps21
  go_wp2_with (first | (refine wpList_buildZ rfl _ rfl builtBool ?_) | (refine wpList_storeR rfl _ _ _ rfl _ _ rfl rfl ((Blk.newAt (by simp)).eq_ zeroBool) size46 (boolRow_size _ _) (boolRow_size _ _) (boolRow_all _ _) ?_))
  go_loopw [4] (fun i wr => ∃ k : Nat, k ≤ 256 ∧ i = .int .i64 k ∧ Blk wr w.heap.size 25 (byteRow 256 b) ∧ Blk wr (w.heap.size + 1) 46 (boolRow 256 (metB b k)) ∧ DistTo b k ∧ Below w.heap.size w wr)
    (fun i _ => 256 - (intOf i).toNat)
  case atStart =>
    exact ⟨0, by omega, rfl, ((Blk.new w _ _).alloc _).rowFar (by omega) _, (Blk.newAt (w := w.alloc _) (by simp)).setRow _, dist_zero b, below_row (((Below.refl _ _).alloc (by omega) _).alloc (by simp) _) (by omega) _⟩
  case round =>
    obtain ⟨k, hk, rfl, h0, h1, hd, hb⟩ := hrel
    by_cases hlt : k < 256
    · have c0 := h0.byteAt hlt
      have hbl := (b k).toNat_lt
      have c1 := h1.boolAt hbl
      have f1 := h1.frozen (b k).toNat
      cases hm : metB b k (b k).toNat with
      | true =>
        rw [hm] at c1
        have hp := permB_false (not_perm_of_met hlt hm)
        clear hm
        have H0 := Lib.hid h0; clear h0; have H1 := Lib.hid h1; clear h1; have Hd := Lib.hid hd; clear hd; have Hb := Lib.hid hb; clear hb; have Hp := Lib.hid hp; clear hp
        go_wp2
        go_ret
        exact ⟨ret_bool Hp.out.symm, Hb.out⟩
      | false =>
        rw [hm] at c1
        have H0 := Lib.hid h0; clear h0; have H1 := Lib.hid h1; clear h1; have Hd := Lib.hid hd; clear hd; have Hb := Lib.hid hb; clear hb; have Hm := Lib.hid hm; clear hm
        go_wp2
        go_roundw
        case rel => exact ⟨k + 1, by omega, by go_num, H0.out.farC (by omega) _, metRow_put H1.out, dist_succ Hd.out Hm.out, Hb.out.setCell (by show _ ≤ _ + 1; omega) _⟩
        case measure => simp [intOf]; omega
    · obtain rfl : k = 256 := by omega
      have hp := permB_true (perm_of_dist hd)
      have H0 := Lib.hid h0; clear h0; have H1 := Lib.hid h1; clear h1; have Hd := Lib.hid hd; clear hd; have Hb := Lib.hid hb; clear hb; have Hp := Lib.hid hp; clear hp
      go_wp2
      go_ret
      exact ⟨ret_bool Hp.out.symm, Hb.out⟩
set_option maxRecDepth 100000 in
set_option maxHeartbeats 400000 in
theorem indexBool (s : Nat → Bool) (v : Bool) (g n t : Nat) (hn : n ≤ 256) (w : World) (hg : Blk w g t (boolRow n s)) :
    Calls Try.prog 34 #[.slice (some ⟨g, 0, none⟩) n n, .bool v] w fun e w' => e = .returned (.int .i64 (idxB s v n)) ∧ Below w.heap.size w w' := by
  have Hg := Lib.hid hg; clear hg
  go_enter Try.func34, Try.ntmps34
  go_wp2
  go_loop [8] (fun i => ∃ k : Nat, k ≤ n ∧ i = .int .i64 k ∧ ∀ j, j < k → s j ≠ v)
    (fun i => n - (intOf i).toNat)
  case atStart => exact ⟨0, by omega, rfl, fun j hj => absurd hj (Nat.not_lt_zero _)⟩
  case round =>
    obtain ⟨k, hk, rfl, hd⟩ := hrel
    have Hd := Lib.hid hd; clear hd
    by_cases hlt : k < n
    · have c0 := Hg.out.boolAt hlt
      by_cases hm : s k = v
      · rw [hm] at c0
        have hi := idxB_hit Hd.out hm hlt
        clear hm
        have Hi := Lib.hid hi; clear hi
        cases v <;>
        · go_wp2
          go_ret
          exact ⟨ret_int Hi.out.symm, Below.refl _ _⟩
      · have hm2 : s k = !v := by
          cases hs : s k <;> cases v <;> simp_all
        rw [hm2] at c0
        clear hm2
        have Hm := Lib.hid hm; clear hm
        cases v <;>
        · go_wp2
          go_round
          case rel =>
            refine ⟨k + 1, by omega, by go_num, fun j hj => ?_⟩
            by_cases hjk : j = k
            · subst hjk; exact Hm.out
            · exact Hd.out j (by omega)
          case measure => simp [intOf]; omega
    · obtain rfl : k = n := by omega
      have hi := idxB_none Hd.out
      have Hi := Lib.hid hi; clear hi
      go_wp2
      go_ret
      exact ⟨ret_int Hi.out.symm, Below.refl _ _⟩
set_option maxHeartbeats 400000 in
theorem containsBool (s : Nat → Bool) (v : Bool) (g n t : Nat) (hn : n ≤ 256) (w : World) (hg : Blk w g t (boolRow n s)) :
    Calls Try.prog 30 #[.slice (some ⟨g, 0, none⟩) n n, .bool v] w fun e w' => e = .returned (.bool (decide (0 ≤ idxB s v n))) ∧ Below w.heap.size w w' := by
  have Hg := Lib.hid hg; clear hg
  go_enter Try.func30, Try.ntmps30
  go_wp2_with (first | (go_at_call 34; refine (indexBool s v g n t hn _ Hg.out).mono ?_; rintro e w1 ⟨rfl, hb⟩))
  go_ret
  exact ⟨rfl, hb⟩
set_option maxRecDepth 100000 in
set_option maxHeartbeats 400000 in
theorem implIsPermutation (b : Nat → UInt8) (w : World) :
    Calls Try.prog 23 #[.agg (byteRow 256 b)] w fun e w' => e = .returned (.bool (permB b)) ∧ Below w.heap.size w w' := by
  go_enter Try.func23, Try.ntmps23
  go_wp2_with (first | (refine wpList_buildZ rfl _ rfl builtBool ?_) | (refine wpList_storeR rfl _ _ _ rfl _ _ rfl rfl ((Blk.newAt (by simp)).eq_ zeroBool) size46 (boolRow_size _ _) (boolRow_size _ _) (boolRow_all _ _) ?_) | (refine wpList_loadR rfl _ _ rfl _ rfl (((Blk.new w _ _).alloc _).rowFar (by omega) _) Try.underlying25 rfl size25 (byteRow_size _ _) ?_))
  go_loopw [8] (fun i wr => ∃ k : Nat, k ≤ 256 ∧ i = .int .i64 k ∧ Blk wr (w.heap.size + 1) 46 (boolRow 256 (metB b k)) ∧ Below w.heap.size w wr)
    (fun i _ => 256 - (intOf i).toNat)
  case atStart =>
    exact ⟨0, by omega, rfl, (Blk.newAt (w := w.alloc _) (by simp)).setRow _, below_row (((Below.refl _ _).alloc (by omega) _).alloc (by simp) _) (by omega) _⟩
  case round =>
    obtain ⟨k, hk, rfl, h1, hb⟩ := hrel
    by_cases hlt : k < 256
    · have hbl := (b k).toNat_lt
      have c1 := h1.boolAt hbl
      have f1 := h1.frozen (b k).toNat
      have ix := fun (w : World) => run_index_row (w := w) .i64 Try.underlying25 sizeU1 (.inl Try.underlying5) hlt (byteRow_at b hlt)
      have H1 := Lib.hid h1; clear h1; have Hb := Lib.hid hb; clear hb
      go_wp2
      go_roundw
      case rel => exact ⟨k + 1, by omega, by go_num, metRow_put H1.out, Hb.out.setCell (by show _ ≤ _ + 1; omega) _⟩
      case measure => simp [intOf]; omega
    · obtain rfl : k = 256 := by omega
      have hp := contains_perm b
      have H1 := Lib.hid h1; clear h1; have Hb := Lib.hid hb; clear hb; have Hp := Lib.hid hp; clear hp
      go_wp2_with (first | (go_at_call 30; refine (containsBool (metB b 256) false _ 256 _ (by omega) _ H1.out).mono ?_; rintro e w1 ⟨rfl, hb1⟩))
      go_ret
      exact ⟨ret_bool Hp.out, Hb.out.trans (hb1.mono Hb.out.size)⟩
end Go.Proofs.Ytoijoogonajopaa
