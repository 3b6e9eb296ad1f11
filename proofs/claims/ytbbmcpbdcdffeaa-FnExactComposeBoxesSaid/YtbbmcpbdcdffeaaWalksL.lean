/- The walks of laws of two arrays: their regions draw. No condition. -/
import Derived.Test.YtbbmcpbdcdffeaaRows
import Derived.Test.YtbbmcpbdcdffeaaXor
import Derived.Test.YtbbmcpbdcdffeaaBox
import Derived.Test.YtbbmcpbdcdffeaaDraw
set_option linter.unusedVariables false
namespace Go.Proofs.Ytbbmcpbdcdffeaa
open Go.RowKit Plain
set_option maxRecDepth 100000 in
set_option maxHeartbeats 1600000 in
theorem fnExactXorBlocks.walk (p q : Nat → UInt8) (w : World) :
    Calls Try.prog 6 #[.agg (byteRow 16 p), .agg (byteRow 16 q)] w fun e w' => e = .returned (.bool true) ∧ Below w.heap.size w w' := by
  go_enter Try.func6, Try.ntmps6
  have k0 := Lib.hid ((Blk.new w 34 (byteRow 16 p)).alloc (.cells (byteRow 16 q) 34))
  have k1 := Lib.hid (Blk.newAt (t := 34) (cs := byteRow 16 q) (w := w.alloc (.cells (byteRow 16 p) 34)) (n := w.heap.size + 1) (by simp))
  have l := Lib.hid (((Below.refl w.heap.size w).alloc (Nat.le_refl _) (.cells (byteRow 16 p) 34)).alloc (by simp) (.cells (byteRow 16 q) 34))
  obtain ⟨wl, hwl⟩ : ∃ wl : World, wl = (w.alloc (.cells (byteRow 16 p) 34)).alloc (.cells (byteRow 16 q) 34) := ⟨_, rfl⟩
  go_upto_region 1 with fail
  rw [← hwl] at k0 k1 l ⊢
  clear hwl
  refine wp_region_draw rfl (fun i => #[.agg (byteRow 16 p), .agg (byteRow 16 p), .agg (byteRow 16 q), .agg (byteRow 16 q), .agg (byteRow 16 ((xorOf p q))), undef, undef].getD i undef) 5 6 5 35 (byteRow 16 (fun _ => 0)) (byteRow 16 ((xorOf p q))) (by kernel_rfl) (by kernel_rfl) (by kernel_rfl) rfl rfl rfl rfl (by decide) (by kernel_rfl) ?_ ?_ ?_ (fun g => [(some 7, .agg (byteRow 16 p)), (some 8, .agg (byteRow 16 p)), (some 9, .agg (byteRow 16 q)), (some 10, .agg (byteRow 16 q)), (some 11, .agg (byteRow 16 ((xorOf p q)))), (some 5, .pointer (some ⟨g, 0, none⟩)), (none, undef)]) (fun g => rfl) ?_
  · refine each_cons (fun _ _ a wr hc => ?_) (each_cons (fun _ _ a wr hc => ?_) (each_cons (fun _ _ a wr hc => ?_) (each_cons (fun _ _ a wr hc => ?_) (each_cons (fun _ _ a wr hc => ?_) (each_cons (fun h _ => absurd rfl h) (each_cons (fun _ h => absurd rfl h) (each_nil)))))))
    · exact draw_load _ _ rfl _ (hc.old 2 (by kernel_rfl)) (k0.out.below hc.bel k0.out.lt) Try.underlying34 rfl size34 (byteRow_size _ _)
    · have e0 : a.eval (.tmp 7) = .agg (byteRow 16 p) := hc.new 7 0 (by kernel_rfl) (by kernel_rfl) (by decide); exact draw_call _ #[.tmp 7] _ rfl (by simp only [List.map_toArray, List.map_cons, List.map_nil, e0]) (fun w => by go_simp) (toBlock _ _)
    · exact draw_load _ _ rfl _ (hc.old 3 (by kernel_rfl)) (k1.out.below hc.bel k1.out.lt) Try.underlying34 rfl size34 (byteRow_size _ _)
    · have e0 : a.eval (.tmp 9) = .agg (byteRow 16 q) := hc.new 9 2 (by kernel_rfl) (by kernel_rfl) (by decide); exact draw_call _ #[.tmp 9] _ rfl (by simp only [List.map_toArray, List.map_cons, List.map_nil, e0]) (fun w => by go_simp) (toBlock _ _)
    · have e0 : a.eval (.tmp 8) = .agg (byteRow 16 p) := hc.new 8 1 (by kernel_rfl) (by kernel_rfl) (by decide); have e1 : a.eval (.tmp 10) = .agg (byteRow 16 q) := hc.new 10 3 (by kernel_rfl) (by kernel_rfl) (by decide); exact draw_call _ #[.tmp 8, .tmp 10] _ rfl (by simp only [List.map_toArray, List.map_cons, List.map_nil, e0, e1]) (fun w => by go_simp) (specXorBlocks _ _ _)
  · intro a wr
    go_simp
    rw [zero16]
  · intro a wr g hc hg hb
    exact draw_store _ _ _ rfl rfl g (show a.eval (.tmp 5) = _ from hg) (hc.new 11 4 (by kernel_rfl) (by kernel_rfl) (by decide)) hb size35 (byteRow_size _ _) (byteRow_size _ _) (byteRow_all _ _)
  · intro wx gskw hgs kw hb
    have k0 := carryB k0 hb
    have k1 := carryB k1 hb
    have l := carryS l hb
    have kw := Lib.hid kw
    clear hb hgs
    simp only [putAll, Act.put, List.setIfInBounds_toArray, List.set]
    go_upto_region 2 with fail
    refine wp_region_draw rfl (fun i => #[.agg (byteRow 16 p), .agg (byteRow 16 p), .agg (byteRow 16 q), .agg (byteRow 16 q), .agg (byteRow 16 ((xorOf p q))), undef, undef].getD i undef) 5 6 6 35 (byteRow 16 (fun _ => 0)) (byteRow 16 ((xorOf p q))) (by kernel_rfl) (by kernel_rfl) (by kernel_rfl) rfl rfl rfl rfl (by decide) (by kernel_rfl) ?_ ?_ ?_ (fun g => [(some 12, .agg (byteRow 16 p)), (some 13, .agg (byteRow 16 p)), (some 14, .agg (byteRow 16 q)), (some 15, .agg (byteRow 16 q)), (some 16, .agg (byteRow 16 ((xorOf p q)))), (some 6, .pointer (some ⟨g, 0, none⟩)), (none, undef)]) (fun g => rfl) ?_
    · refine each_cons (fun _ _ a wr hc => ?_) (each_cons (fun _ _ a wr hc => ?_) (each_cons (fun _ _ a wr hc => ?_) (each_cons (fun _ _ a wr hc => ?_) (each_cons (fun _ _ a wr hc => ?_) (each_cons (fun h _ => absurd rfl h) (each_cons (fun _ h => absurd rfl h) (each_nil)))))))
      · exact draw_load _ _ rfl _ (hc.old 2 (by kernel_rfl)) (k0.out.below hc.bel k0.out.lt) Try.underlying34 rfl size34 (byteRow_size _ _)
      · have e0 : a.eval (.tmp 12) = .agg (byteRow 16 p) := hc.new 12 0 (by kernel_rfl) (by kernel_rfl) (by decide); exact draw_call _ #[.tmp 12] _ rfl (by simp only [List.map_toArray, List.map_cons, List.map_nil, e0]) (fun w => by go_simp) (toBlock _ _)
      · exact draw_load _ _ rfl _ (hc.old 3 (by kernel_rfl)) (k1.out.below hc.bel k1.out.lt) Try.underlying34 rfl size34 (byteRow_size _ _)
      · have e0 : a.eval (.tmp 14) = .agg (byteRow 16 q) := hc.new 14 2 (by kernel_rfl) (by kernel_rfl) (by decide); exact draw_call _ #[.tmp 14] _ rfl (by simp only [List.map_toArray, List.map_cons, List.map_nil, e0]) (fun w => by go_simp) (toBlock _ _)
      · have e0 : a.eval (.tmp 13) = .agg (byteRow 16 p) := hc.new 13 1 (by kernel_rfl) (by kernel_rfl) (by decide); have e1 : a.eval (.tmp 15) = .agg (byteRow 16 q) := hc.new 15 3 (by kernel_rfl) (by kernel_rfl) (by decide); exact draw_call _ #[.tmp 13, .tmp 15] _ rfl (by simp only [List.map_toArray, List.map_cons, List.map_nil, e0, e1]) (fun w => by go_simp) (implXorBlocks _ _ _)
    · intro a wr
      go_simp
      rw [zero16]
    · intro a wr g hc hg hb
      exact draw_store _ _ _ rfl rfl g (show a.eval (.tmp 6) = _ from hg) (hc.new 16 4 (by kernel_rfl) (by kernel_rfl) (by decide)) hb size35 (byteRow_size _ _) (byteRow_size _ _) (byteRow_all _ _)
    · intro wx gskg hgs kg hb
      have k0 := carryB k0 hb
      have k1 := carryB k1 hb
      have kw := carryB kw hb
      have l := carryS l hb
      have kg := Lib.hid kg
      clear hb hgs
      simp only [putAll, Act.put, List.setIfInBounds_toArray, List.set]
      go_wp2_with (refine wpList_loadH rfl _ _ rfl _ rfl (by assumption) Try.underlying35 rfl size35 (byteRow_size _ _) ?_)
      refine (eqBlock _ _).mono ?_
      rintro e wx ⟨rfl, hb⟩
      have l := carryS l hb
      clear hb
      go_wp2_with fail
      go_ret
      exact ⟨rfl, l.out⟩
set_option maxRecDepth 100000 in
set_option maxHeartbeats 1600000 in
theorem fnExactComposeBoxes.walk (p q : Nat → UInt8) (w : World) :
    Calls Try.prog 7 #[.agg (byteRow 256 p), .agg (byteRow 256 q)] w fun e w' => e = .returned (.bool true) ∧ Below w.heap.size w w' := by
  go_enter Try.func7, Try.ntmps7
  have k0 := Lib.hid ((Blk.new w 23 (byteRow 256 p)).alloc (.cells (byteRow 256 q) 23))
  have k1 := Lib.hid (Blk.newAt (t := 23) (cs := byteRow 256 q) (w := w.alloc (.cells (byteRow 256 p) 23)) (n := w.heap.size + 1) (by simp))
  have l := Lib.hid (((Below.refl w.heap.size w).alloc (Nat.le_refl _) (.cells (byteRow 256 p) 23)).alloc (by simp) (.cells (byteRow 256 q) 23))
  obtain ⟨wl, hwl⟩ : ∃ wl : World, wl = (w.alloc (.cells (byteRow 256 p) 23)).alloc (.cells (byteRow 256 q) 23) := ⟨_, rfl⟩
  go_upto_region 1 with fail
  rw [← hwl] at k0 k1 l ⊢
  clear hwl
  refine wp_region_draw rfl (fun i => #[.agg (byteRow 256 p), .agg (byteRow 256 p), .agg (byteRow 256 q), .agg (byteRow 256 q), .agg (byteRow 256 ((thenOf p q))), undef, undef].getD i undef) 5 6 5 25 (byteRow 256 (fun _ => 0)) (byteRow 256 ((thenOf p q))) (by kernel_rfl) (by kernel_rfl) (by kernel_rfl) rfl rfl rfl rfl (by decide) (by kernel_rfl) ?_ ?_ ?_ (fun g => [(some 7, .agg (byteRow 256 p)), (some 8, .agg (byteRow 256 p)), (some 9, .agg (byteRow 256 q)), (some 10, .agg (byteRow 256 q)), (some 11, .agg (byteRow 256 ((thenOf p q)))), (some 5, .pointer (some ⟨g, 0, none⟩)), (none, undef)]) (fun g => rfl) ?_
  · refine each_cons (fun _ _ a wr hc => ?_) (each_cons (fun _ _ a wr hc => ?_) (each_cons (fun _ _ a wr hc => ?_) (each_cons (fun _ _ a wr hc => ?_) (each_cons (fun _ _ a wr hc => ?_) (each_cons (fun h _ => absurd rfl h) (each_cons (fun _ h => absurd rfl h) (each_nil)))))))
    · exact draw_load _ _ rfl _ (hc.old 2 (by kernel_rfl)) (k0.out.below hc.bel k0.out.lt) Try.underlying23 rfl size23 (byteRow_size _ _)
    · have e0 : a.eval (.tmp 7) = .agg (byteRow 256 p) := hc.new 7 0 (by kernel_rfl) (by kernel_rfl) (by decide); exact draw_call _ #[.tmp 7] _ rfl (by simp only [List.map_toArray, List.map_cons, List.map_nil, e0]) (fun w => by go_simp) (toBox _ _)
    · exact draw_load _ _ rfl _ (hc.old 3 (by kernel_rfl)) (k1.out.below hc.bel k1.out.lt) Try.underlying23 rfl size23 (byteRow_size _ _)
    · have e0 : a.eval (.tmp 9) = .agg (byteRow 256 q) := hc.new 9 2 (by kernel_rfl) (by kernel_rfl) (by decide); exact draw_call _ #[.tmp 9] _ rfl (by simp only [List.map_toArray, List.map_cons, List.map_nil, e0]) (fun w => by go_simp) (toBox _ _)
    · have e0 : a.eval (.tmp 8) = .agg (byteRow 256 p) := hc.new 8 1 (by kernel_rfl) (by kernel_rfl) (by decide); have e1 : a.eval (.tmp 10) = .agg (byteRow 256 q) := hc.new 10 3 (by kernel_rfl) (by kernel_rfl) (by decide); exact draw_call _ #[.tmp 8, .tmp 10] _ rfl (by simp only [List.map_toArray, List.map_cons, List.map_nil, e0, e1]) (fun w => by go_simp) (specComposeBoxes _ _ _)
  · intro a wr
    go_simp
    rw [zeroBox]
  · intro a wr g hc hg hb
    exact draw_store _ _ _ rfl rfl g (show a.eval (.tmp 5) = _ from hg) (hc.new 11 4 (by kernel_rfl) (by kernel_rfl) (by decide)) hb size25 (byteRow_size _ _) (byteRow_size _ _) (byteRow_all _ _)
  · intro wx gskw hgs kw hb
    have k0 := carryB k0 hb
    have k1 := carryB k1 hb
    have l := carryS l hb
    have kw := Lib.hid kw
    clear hb hgs
    simp only [putAll, Act.put, List.setIfInBounds_toArray, List.set]
    go_upto_region 2 with fail
    refine wp_region_draw rfl (fun i => #[.agg (byteRow 256 p), .agg (byteRow 256 p), .agg (byteRow 256 q), .agg (byteRow 256 q), .agg (byteRow 256 ((thenOf p q))), undef, undef].getD i undef) 5 6 6 25 (byteRow 256 (fun _ => 0)) (byteRow 256 ((thenOf p q))) (by kernel_rfl) (by kernel_rfl) (by kernel_rfl) rfl rfl rfl rfl (by decide) (by kernel_rfl) ?_ ?_ ?_ (fun g => [(some 12, .agg (byteRow 256 p)), (some 13, .agg (byteRow 256 p)), (some 14, .agg (byteRow 256 q)), (some 15, .agg (byteRow 256 q)), (some 16, .agg (byteRow 256 ((thenOf p q)))), (some 6, .pointer (some ⟨g, 0, none⟩)), (none, undef)]) (fun g => rfl) ?_
    · refine each_cons (fun _ _ a wr hc => ?_) (each_cons (fun _ _ a wr hc => ?_) (each_cons (fun _ _ a wr hc => ?_) (each_cons (fun _ _ a wr hc => ?_) (each_cons (fun _ _ a wr hc => ?_) (each_cons (fun h _ => absurd rfl h) (each_cons (fun _ h => absurd rfl h) (each_nil)))))))
      · exact draw_load _ _ rfl _ (hc.old 2 (by kernel_rfl)) (k0.out.below hc.bel k0.out.lt) Try.underlying23 rfl size23 (byteRow_size _ _)
      · have e0 : a.eval (.tmp 12) = .agg (byteRow 256 p) := hc.new 12 0 (by kernel_rfl) (by kernel_rfl) (by decide); exact draw_call _ #[.tmp 12] _ rfl (by simp only [List.map_toArray, List.map_cons, List.map_nil, e0]) (fun w => by go_simp) (toBox _ _)
      · exact draw_load _ _ rfl _ (hc.old 3 (by kernel_rfl)) (k1.out.below hc.bel k1.out.lt) Try.underlying23 rfl size23 (byteRow_size _ _)
      · have e0 : a.eval (.tmp 14) = .agg (byteRow 256 q) := hc.new 14 2 (by kernel_rfl) (by kernel_rfl) (by decide); exact draw_call _ #[.tmp 14] _ rfl (by simp only [List.map_toArray, List.map_cons, List.map_nil, e0]) (fun w => by go_simp) (toBox _ _)
      · have e0 : a.eval (.tmp 13) = .agg (byteRow 256 p) := hc.new 13 1 (by kernel_rfl) (by kernel_rfl) (by decide); have e1 : a.eval (.tmp 15) = .agg (byteRow 256 q) := hc.new 15 3 (by kernel_rfl) (by kernel_rfl) (by decide); exact draw_call _ #[.tmp 13, .tmp 15] _ rfl (by simp only [List.map_toArray, List.map_cons, List.map_nil, e0, e1]) (fun w => by go_simp) (implComposeBoxes _ _ _)
    · intro a wr
      go_simp
      rw [zeroBox]
    · intro a wr g hc hg hb
      exact draw_store _ _ _ rfl rfl g (show a.eval (.tmp 6) = _ from hg) (hc.new 16 4 (by kernel_rfl) (by kernel_rfl) (by decide)) hb size25 (byteRow_size _ _) (byteRow_size _ _) (byteRow_all _ _)
    · intro wx gskg hgs kg hb
      have k0 := carryB k0 hb
      have k1 := carryB k1 hb
      have kw := carryB kw hb
      have l := carryS l hb
      have kg := Lib.hid kg
      clear hb hgs
      simp only [putAll, Act.put, List.setIfInBounds_toArray, List.set]
      go_wp2_with (refine wpList_loadH rfl _ _ rfl _ rfl (by assumption) Try.underlying25 rfl size25 (byteRow_size _ _) ?_)
      refine (eqBox _ _).mono ?_
      rintro e wx ⟨rfl, hb⟩
      have l := carryS l hb
      clear hb
      go_wp2_with fail
      go_ret
      exact ⟨rfl, l.out⟩
end Go.Proofs.Ytbbmcpbdcdffeaa
