/- The walks of laws of two arrays: their regions draw. No condition. -/
import Derived.Test.YtdhlfbipljelcaaRows
import Derived.Test.YtdhlfbipljelcaaComPl
import Derived.Test.YtdhlfbipljelcaaDraw
set_option linter.unusedVariables false
namespace Go.Proofs.Ytdhlfbipljelcaa
open Go.RowKit Plain
set_option maxRecDepth 100000 in
set_option maxHeartbeats 1600000 in
theorem fnExactComposePlaces.walk (p q : Nat → UInt8) (w : World) :
    Calls Try.prog 9 #[.agg (byteRow 16 p), .agg (byteRow 16 q)] w fun e w' => e = .returned (.bool true) ∧ Below w.heap.size w w' := by
  go_enter Try.func9, Try.ntmps9
  have k0 := Lib.hid ((Blk.new w 37 (byteRow 16 p)).alloc (.cells (byteRow 16 q) 37))
  have k1 := Lib.hid (Blk.newAt (t := 37) (cs := byteRow 16 q) (w := w.alloc (.cells (byteRow 16 p) 37)) (n := w.heap.size + 1) (by simp))
  have l := Lib.hid (((Below.refl w.heap.size w).alloc (Nat.le_refl _) (.cells (byteRow 16 p) 37)).alloc (by simp) (.cells (byteRow 16 q) 37))
  obtain ⟨wl, hwl⟩ : ∃ wl : World, wl = (w.alloc (.cells (byteRow 16 p) 37)).alloc (.cells (byteRow 16 q) 37) := ⟨_, rfl⟩
  go_upto_region 1 with fail
  rw [← hwl] at k0 k1 l ⊢
  clear hwl
  refine wp_region_draw rfl (fun i => #[.agg (byteRow 16 p), .agg (byteRow 16 p), .agg (byteRow 16 q), .agg (byteRow 16 q), .tuple #[.agg (byteRow 16 ((comPl p q))), .int .i64 ((comPlC p q))], .tuple #[.agg (byteRow 16 ((comPl p q))), .int .i64 ((comPlC p q))], .agg (byteRow 16 ((comPl p q))), .int .i64 ((comPlC p q)), undef, undef, .int .i64 ((comPlC p q))].getD i undef) 8 9 5 38 (byteRow 16 (fun _ => 0)) (byteRow 16 ((comPl p q))) (by kernel_rfl) (by kernel_rfl) (by kernel_rfl) rfl rfl rfl rfl (by decide) (by kernel_rfl) ?_ ?_ ?_ (fun g => [(some 10, .agg (byteRow 16 p)), (some 11, .agg (byteRow 16 p)), (some 12, .agg (byteRow 16 q)), (some 13, .agg (byteRow 16 q)), (some 14, .tuple #[.agg (byteRow 16 ((comPl p q))), .int .i64 ((comPlC p q))]), (some 9, .tuple #[.agg (byteRow 16 ((comPl p q))), .int .i64 ((comPlC p q))]), (some 15, .agg (byteRow 16 ((comPl p q)))), (some 16, .int .i64 ((comPlC p q))), (some 5, .pointer (some ⟨g, 0, none⟩)), (none, undef), (some 6, .int .i64 ((comPlC p q)))]) (fun g => rfl) ?_
  · refine each_cons (fun _ _ a wr hc => ?_) (each_cons (fun _ _ a wr hc => ?_) (each_cons (fun _ _ a wr hc => ?_) (each_cons (fun _ _ a wr hc => ?_) (each_cons (fun _ _ a wr hc => ?_) (each_cons (fun _ _ a wr hc => ?_) (each_cons (fun _ _ a wr hc => ?_) (each_cons (fun _ _ a wr hc => ?_) (each_cons (fun h _ => absurd rfl h) (each_cons (fun _ h => absurd rfl h) (each_cons (fun _ _ a wr hc => ?_) (each_nil)))))))))))
    · exact draw_load _ _ rfl _ (hc.old 2 (by kernel_rfl)) (k0.out.below hc.bel k0.out.lt) Try.underlying37 rfl size37 (byteRow_size _ _)
    · have e0 : a.eval (.tmp 10) = .agg (byteRow 16 p) := hc.new 10 0 (by kernel_rfl) (by kernel_rfl) (by decide); exact draw_call _ #[.tmp 10] _ rfl (by simp only [List.map_toArray, List.map_cons, List.map_nil, e0]) (fun w => by go_simp) (toPlaces _ _)
    · exact draw_load _ _ rfl _ (hc.old 3 (by kernel_rfl)) (k1.out.below hc.bel k1.out.lt) Try.underlying37 rfl size37 (byteRow_size _ _)
    · have e0 : a.eval (.tmp 12) = .agg (byteRow 16 q) := hc.new 12 2 (by kernel_rfl) (by kernel_rfl) (by decide); exact draw_call _ #[.tmp 12] _ rfl (by simp only [List.map_toArray, List.map_cons, List.map_nil, e0]) (fun w => by go_simp) (toPlaces _ _)
    · have e0 : a.eval (.tmp 11) = .agg (byteRow 16 p) := hc.new 11 1 (by kernel_rfl) (by kernel_rfl) (by decide); have e1 : a.eval (.tmp 13) = .agg (byteRow 16 q) := hc.new 13 3 (by kernel_rfl) (by kernel_rfl) (by decide); exact draw_call _ #[.tmp 11, .tmp 13] _ rfl (by simp only [List.map_toArray, List.map_cons, List.map_nil, e0, e1]) (fun w => by go_simp) (specComposePlaces _ _ _)
    · exact draw_move _ rfl (hc.new 14 4 (by kernel_rfl) (by kernel_rfl) (by decide))
    · exact draw_extract _ _ rfl (hc.new 9 5 (by kernel_rfl) (by kernel_rfl) (by decide)) rfl
    · exact draw_extract _ _ rfl (hc.new 9 5 (by kernel_rfl) (by kernel_rfl) (by decide)) rfl
    · exact draw_assign _ rfl (hc.new 16 7 (by kernel_rfl) (by kernel_rfl) (by decide))
  · intro a wr
    go_simp
    rw [zero16]
  · intro a wr g hc hg hb
    exact draw_store _ _ _ rfl rfl g (show a.eval (.tmp 5) = _ from hg) (hc.new 15 6 (by kernel_rfl) (by kernel_rfl) (by decide)) hb size38 (byteRow_size _ _) (byteRow_size _ _) (byteRow_all _ _)
  · intro wx gskw hgs kw hb
    have k0 := carryB k0 hb
    have k1 := carryB k1 hb
    have l := carryS l hb
    have kw := Lib.hid kw
    clear hb hgs
    simp only [putAll, Act.put, List.setIfInBounds_toArray, List.set]
    go_upto_region 2 with fail
    refine wp_region_draw rfl (fun i => #[.agg (byteRow 16 p), .agg (byteRow 16 p), .agg (byteRow 16 q), .agg (byteRow 16 q), .tuple #[.agg (byteRow 16 ((comPl p q))), .int .i64 ((comPlC p q))], .tuple #[.agg (byteRow 16 ((comPl p q))), .int .i64 ((comPlC p q))], .agg (byteRow 16 ((comPl p q))), .int .i64 ((comPlC p q)), undef, undef, .int .i64 ((comPlC p q))].getD i undef) 8 9 7 38 (byteRow 16 (fun _ => 0)) (byteRow 16 ((comPl p q))) (by kernel_rfl) (by kernel_rfl) (by kernel_rfl) rfl rfl rfl rfl (by decide) (by kernel_rfl) ?_ ?_ ?_ (fun g => [(some 18, .agg (byteRow 16 p)), (some 19, .agg (byteRow 16 p)), (some 20, .agg (byteRow 16 q)), (some 21, .agg (byteRow 16 q)), (some 22, .tuple #[.agg (byteRow 16 ((comPl p q))), .int .i64 ((comPlC p q))]), (some 17, .tuple #[.agg (byteRow 16 ((comPl p q))), .int .i64 ((comPlC p q))]), (some 23, .agg (byteRow 16 ((comPl p q)))), (some 24, .int .i64 ((comPlC p q))), (some 7, .pointer (some ⟨g, 0, none⟩)), (none, undef), (some 8, .int .i64 ((comPlC p q)))]) (fun g => rfl) ?_
    · refine each_cons (fun _ _ a wr hc => ?_) (each_cons (fun _ _ a wr hc => ?_) (each_cons (fun _ _ a wr hc => ?_) (each_cons (fun _ _ a wr hc => ?_) (each_cons (fun _ _ a wr hc => ?_) (each_cons (fun _ _ a wr hc => ?_) (each_cons (fun _ _ a wr hc => ?_) (each_cons (fun _ _ a wr hc => ?_) (each_cons (fun h _ => absurd rfl h) (each_cons (fun _ h => absurd rfl h) (each_cons (fun _ _ a wr hc => ?_) (each_nil)))))))))))
      · exact draw_load _ _ rfl _ (hc.old 2 (by kernel_rfl)) (k0.out.below hc.bel k0.out.lt) Try.underlying37 rfl size37 (byteRow_size _ _)
      · have e0 : a.eval (.tmp 18) = .agg (byteRow 16 p) := hc.new 18 0 (by kernel_rfl) (by kernel_rfl) (by decide); exact draw_call _ #[.tmp 18] _ rfl (by simp only [List.map_toArray, List.map_cons, List.map_nil, e0]) (fun w => by go_simp) (toPlaces _ _)
      · exact draw_load _ _ rfl _ (hc.old 3 (by kernel_rfl)) (k1.out.below hc.bel k1.out.lt) Try.underlying37 rfl size37 (byteRow_size _ _)
      · have e0 : a.eval (.tmp 20) = .agg (byteRow 16 q) := hc.new 20 2 (by kernel_rfl) (by kernel_rfl) (by decide); exact draw_call _ #[.tmp 20] _ rfl (by simp only [List.map_toArray, List.map_cons, List.map_nil, e0]) (fun w => by go_simp) (toPlaces _ _)
      · have e0 : a.eval (.tmp 19) = .agg (byteRow 16 p) := hc.new 19 1 (by kernel_rfl) (by kernel_rfl) (by decide); have e1 : a.eval (.tmp 21) = .agg (byteRow 16 q) := hc.new 21 3 (by kernel_rfl) (by kernel_rfl) (by decide); exact draw_call _ #[.tmp 19, .tmp 21] _ rfl (by simp only [List.map_toArray, List.map_cons, List.map_nil, e0, e1]) (fun w => by go_simp) (implComposePlaces _ _ _)
      · exact draw_move _ rfl (hc.new 22 4 (by kernel_rfl) (by kernel_rfl) (by decide))
      · exact draw_extract _ _ rfl (hc.new 17 5 (by kernel_rfl) (by kernel_rfl) (by decide)) rfl
      · exact draw_extract _ _ rfl (hc.new 17 5 (by kernel_rfl) (by kernel_rfl) (by decide)) rfl
      · exact draw_assign _ rfl (hc.new 24 7 (by kernel_rfl) (by kernel_rfl) (by decide))
    · intro a wr
      go_simp
      rw [zero16]
    · intro a wr g hc hg hb
      exact draw_store _ _ _ rfl rfl g (show a.eval (.tmp 7) = _ from hg) (hc.new 23 6 (by kernel_rfl) (by kernel_rfl) (by decide)) hb size38 (byteRow_size _ _) (byteRow_size _ _) (byteRow_all _ _)
    · intro wx gskg hgs kg hb
      have k0 := carryB k0 hb
      have k1 := carryB k1 hb
      have kw := carryB kw hb
      have l := carryS l hb
      have kg := Lib.hid kg
      clear hb hgs
      simp only [putAll, Act.put, List.setIfInBounds_toArray, List.set]
      go_wp2_with (refine wpList_loadH rfl _ _ rfl _ rfl (by assumption) Try.underlying38 rfl size38 (byteRow_size _ _) ?_)
      refine (eqPlaces _ _).mono ?_
      rintro e wx ⟨rfl, hb⟩
      have l := carryS l hb
      clear hb
      go_wp2_with fail
      go_ret
      exact ⟨rfl, l.out⟩
set_option maxRecDepth 100000 in
set_option maxHeartbeats 1600000 in
theorem fnExactMoveBlock.walk (p q : Nat → UInt8) (w : World) :
    Calls Try.prog 11 #[.agg (byteRow 16 p), .agg (byteRow 16 q)] w fun e w' => e = .returned (.bool true) ∧ Below w.heap.size w w' := by
  go_enter Try.func11, Try.ntmps11
  have k0 := Lib.hid ((Blk.new w 37 (byteRow 16 p)).alloc (.cells (byteRow 16 q) 37))
  have k1 := Lib.hid (Blk.newAt (t := 37) (cs := byteRow 16 q) (w := w.alloc (.cells (byteRow 16 p) 37)) (n := w.heap.size + 1) (by simp))
  have l := Lib.hid (((Below.refl w.heap.size w).alloc (Nat.le_refl _) (.cells (byteRow 16 p) 37)).alloc (by simp) (.cells (byteRow 16 q) 37))
  obtain ⟨wl, hwl⟩ : ∃ wl : World, wl = (w.alloc (.cells (byteRow 16 p) 37)).alloc (.cells (byteRow 16 q) 37) := ⟨_, rfl⟩
  go_upto_region 1 with fail
  rw [← hwl] at k0 k1 l ⊢
  clear hwl
  refine wp_region_draw rfl (fun i => #[.agg (byteRow 16 p), .agg (byteRow 16 p), .agg (byteRow 16 q), .agg (byteRow 16 q), .tuple #[.agg (byteRow 16 ((movB p q))), .int .i64 ((movBC p))], .tuple #[.agg (byteRow 16 ((movB p q))), .int .i64 ((movBC p))], .agg (byteRow 16 ((movB p q))), .int .i64 ((movBC p)), undef, undef, .int .i64 ((movBC p))].getD i undef) 8 9 5 48 (byteRow 16 (fun _ => 0)) (byteRow 16 ((movB p q))) (by kernel_rfl) (by kernel_rfl) (by kernel_rfl) rfl rfl rfl rfl (by decide) (by kernel_rfl) ?_ ?_ ?_ (fun g => [(some 10, .agg (byteRow 16 p)), (some 11, .agg (byteRow 16 p)), (some 12, .agg (byteRow 16 q)), (some 13, .agg (byteRow 16 q)), (some 14, .tuple #[.agg (byteRow 16 ((movB p q))), .int .i64 ((movBC p))]), (some 9, .tuple #[.agg (byteRow 16 ((movB p q))), .int .i64 ((movBC p))]), (some 15, .agg (byteRow 16 ((movB p q)))), (some 16, .int .i64 ((movBC p))), (some 5, .pointer (some ⟨g, 0, none⟩)), (none, undef), (some 6, .int .i64 ((movBC p)))]) (fun g => rfl) ?_
  · refine each_cons (fun _ _ a wr hc => ?_) (each_cons (fun _ _ a wr hc => ?_) (each_cons (fun _ _ a wr hc => ?_) (each_cons (fun _ _ a wr hc => ?_) (each_cons (fun _ _ a wr hc => ?_) (each_cons (fun _ _ a wr hc => ?_) (each_cons (fun _ _ a wr hc => ?_) (each_cons (fun _ _ a wr hc => ?_) (each_cons (fun h _ => absurd rfl h) (each_cons (fun _ h => absurd rfl h) (each_cons (fun _ _ a wr hc => ?_) (each_nil)))))))))))
    · exact draw_load _ _ rfl _ (hc.old 2 (by kernel_rfl)) (k0.out.below hc.bel k0.out.lt) Try.underlying37 rfl size37 (byteRow_size _ _)
    · have e0 : a.eval (.tmp 10) = .agg (byteRow 16 p) := hc.new 10 0 (by kernel_rfl) (by kernel_rfl) (by decide); exact draw_call _ #[.tmp 10] _ rfl (by simp only [List.map_toArray, List.map_cons, List.map_nil, e0]) (fun w => by go_simp) (toPlaces _ _)
    · exact draw_load _ _ rfl _ (hc.old 3 (by kernel_rfl)) (k1.out.below hc.bel k1.out.lt) Try.underlying37 rfl size37 (byteRow_size _ _)
    · have e0 : a.eval (.tmp 12) = .agg (byteRow 16 q) := hc.new 12 2 (by kernel_rfl) (by kernel_rfl) (by decide); exact draw_call _ #[.tmp 12] _ rfl (by simp only [List.map_toArray, List.map_cons, List.map_nil, e0]) (fun w => by go_simp) (toBlock _ _)
    · have e0 : a.eval (.tmp 11) = .agg (byteRow 16 p) := hc.new 11 1 (by kernel_rfl) (by kernel_rfl) (by decide); have e1 : a.eval (.tmp 13) = .agg (byteRow 16 q) := hc.new 13 3 (by kernel_rfl) (by kernel_rfl) (by decide); exact draw_call _ #[.tmp 11, .tmp 13] _ rfl (by simp only [List.map_toArray, List.map_cons, List.map_nil, e0, e1]) (fun w => by go_simp) (specMoveBlock _ _ _)
    · exact draw_move _ rfl (hc.new 14 4 (by kernel_rfl) (by kernel_rfl) (by decide))
    · exact draw_extract _ _ rfl (hc.new 9 5 (by kernel_rfl) (by kernel_rfl) (by decide)) rfl
    · exact draw_extract _ _ rfl (hc.new 9 5 (by kernel_rfl) (by kernel_rfl) (by decide)) rfl
    · exact draw_assign _ rfl (hc.new 16 7 (by kernel_rfl) (by kernel_rfl) (by decide))
  · intro a wr
    go_simp
    rw [zero16]
  · intro a wr g hc hg hb
    exact draw_store _ _ _ rfl rfl g (show a.eval (.tmp 5) = _ from hg) (hc.new 15 6 (by kernel_rfl) (by kernel_rfl) (by decide)) hb size48 (byteRow_size _ _) (byteRow_size _ _) (byteRow_all _ _)
  · intro wx gskw hgs kw hb
    have k0 := carryB k0 hb
    have k1 := carryB k1 hb
    have l := carryS l hb
    have kw := Lib.hid kw
    clear hb hgs
    simp only [putAll, Act.put, List.setIfInBounds_toArray, List.set]
    go_upto_region 2 with fail
    refine wp_region_draw rfl (fun i => #[.agg (byteRow 16 p), .agg (byteRow 16 p), .agg (byteRow 16 q), .agg (byteRow 16 q), .tuple #[.agg (byteRow 16 ((movB p q))), .int .i64 ((movBC p))], .tuple #[.agg (byteRow 16 ((movB p q))), .int .i64 ((movBC p))], .agg (byteRow 16 ((movB p q))), .int .i64 ((movBC p)), undef, undef, .int .i64 ((movBC p))].getD i undef) 8 9 7 48 (byteRow 16 (fun _ => 0)) (byteRow 16 ((movB p q))) (by kernel_rfl) (by kernel_rfl) (by kernel_rfl) rfl rfl rfl rfl (by decide) (by kernel_rfl) ?_ ?_ ?_ (fun g => [(some 18, .agg (byteRow 16 p)), (some 19, .agg (byteRow 16 p)), (some 20, .agg (byteRow 16 q)), (some 21, .agg (byteRow 16 q)), (some 22, .tuple #[.agg (byteRow 16 ((movB p q))), .int .i64 ((movBC p))]), (some 17, .tuple #[.agg (byteRow 16 ((movB p q))), .int .i64 ((movBC p))]), (some 23, .agg (byteRow 16 ((movB p q)))), (some 24, .int .i64 ((movBC p))), (some 7, .pointer (some ⟨g, 0, none⟩)), (none, undef), (some 8, .int .i64 ((movBC p)))]) (fun g => rfl) ?_
    · refine each_cons (fun _ _ a wr hc => ?_) (each_cons (fun _ _ a wr hc => ?_) (each_cons (fun _ _ a wr hc => ?_) (each_cons (fun _ _ a wr hc => ?_) (each_cons (fun _ _ a wr hc => ?_) (each_cons (fun _ _ a wr hc => ?_) (each_cons (fun _ _ a wr hc => ?_) (each_cons (fun _ _ a wr hc => ?_) (each_cons (fun h _ => absurd rfl h) (each_cons (fun _ h => absurd rfl h) (each_cons (fun _ _ a wr hc => ?_) (each_nil)))))))))))
      · exact draw_load _ _ rfl _ (hc.old 2 (by kernel_rfl)) (k0.out.below hc.bel k0.out.lt) Try.underlying37 rfl size37 (byteRow_size _ _)
      · have e0 : a.eval (.tmp 18) = .agg (byteRow 16 p) := hc.new 18 0 (by kernel_rfl) (by kernel_rfl) (by decide); exact draw_call _ #[.tmp 18] _ rfl (by simp only [List.map_toArray, List.map_cons, List.map_nil, e0]) (fun w => by go_simp) (toPlaces _ _)
      · exact draw_load _ _ rfl _ (hc.old 3 (by kernel_rfl)) (k1.out.below hc.bel k1.out.lt) Try.underlying37 rfl size37 (byteRow_size _ _)
      · have e0 : a.eval (.tmp 20) = .agg (byteRow 16 q) := hc.new 20 2 (by kernel_rfl) (by kernel_rfl) (by decide); exact draw_call _ #[.tmp 20] _ rfl (by simp only [List.map_toArray, List.map_cons, List.map_nil, e0]) (fun w => by go_simp) (toBlock _ _)
      · have e0 : a.eval (.tmp 19) = .agg (byteRow 16 p) := hc.new 19 1 (by kernel_rfl) (by kernel_rfl) (by decide); have e1 : a.eval (.tmp 21) = .agg (byteRow 16 q) := hc.new 21 3 (by kernel_rfl) (by kernel_rfl) (by decide); exact draw_call _ #[.tmp 19, .tmp 21] _ rfl (by simp only [List.map_toArray, List.map_cons, List.map_nil, e0, e1]) (fun w => by go_simp) (implMoveBlock _ _ _)
      · exact draw_move _ rfl (hc.new 22 4 (by kernel_rfl) (by kernel_rfl) (by decide))
      · exact draw_extract _ _ rfl (hc.new 17 5 (by kernel_rfl) (by kernel_rfl) (by decide)) rfl
      · exact draw_extract _ _ rfl (hc.new 17 5 (by kernel_rfl) (by kernel_rfl) (by decide)) rfl
      · exact draw_assign _ rfl (hc.new 24 7 (by kernel_rfl) (by kernel_rfl) (by decide))
    · intro a wr
      go_simp
      rw [zero16]
    · intro a wr g hc hg hb
      exact draw_store _ _ _ rfl rfl g (show a.eval (.tmp 7) = _ from hg) (hc.new 23 6 (by kernel_rfl) (by kernel_rfl) (by decide)) hb size48 (byteRow_size _ _) (byteRow_size _ _) (byteRow_all _ _)
    · intro wx gskg hgs kg hb
      have k0 := carryB k0 hb
      have k1 := carryB k1 hb
      have kw := carryB kw hb
      have l := carryS l hb
      have kg := Lib.hid kg
      clear hb hgs
      simp only [putAll, Act.put, List.setIfInBounds_toArray, List.set]
      go_wp2_with (refine wpList_loadH rfl _ _ rfl _ rfl (by assumption) Try.underlying48 rfl size48 (byteRow_size _ _) ?_)
      refine (eqBlock _ _).mono ?_
      rintro e wx ⟨rfl, hb⟩
      have l := carryS l hb
      clear hb
      go_wp2_with fail
      go_ret
      exact ⟨rfl, l.out⟩
end Go.Proofs.Ytdhlfbipljelcaa
