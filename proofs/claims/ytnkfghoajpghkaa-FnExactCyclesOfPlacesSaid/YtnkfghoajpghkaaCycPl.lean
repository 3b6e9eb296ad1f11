/- Contracts: cycles of places, by the program and by the reference. No condition. -/
import Derived.Test.YtnkfghoajpghkaaRows
import Derived.Test.YtnkfghoajpghkaaLaws
import Derived.Test.YtnkfghoajpghkaaSSL
import Derived.Test.YtnkfghoajpghkaaPlaces
set_option linter.unusedVariables false
namespace Go.Proofs.Ytnkfghoajpghkaa
open Go.RowKit Plain
def cpC (p : Nat → UInt8) : Int := if placesB p = true then 0 else 1
def cpL (p : Nat → UInt8) : List (List Int) := if placesB p = true then (trSt p 16).2 else []
theorem cp_good {p : Nat → UInt8} (h : placesB p = true) : cpL p = (trSt p 16).2 ∧ cpC p = 0 := by
  unfold cpL cpC
  rw [if_pos h, if_pos h]
  exact ⟨rfl, rfl⟩
theorem cp_bad {p : Nat → UInt8} (h : placesB p = false) : cpL p = [] ∧ cpC p = 1 := by
  unfold cpL cpC
  rw [h]
  exact ⟨rfl, rfl⟩
theorem cpL_len (p : Nat → UInt8) : (cpL p).length ≤ 16 := by
  unfold cpL
  split
  · exact trSt_len p 16
  · simp
theorem ret_pairV {v v' : Value} {n m : Int} (h : v = v') (h2 : n = m) : Ending.returned (.tuple #[v, .int .i64 n]) = .returned (.tuple #[v', .int .i64 m]) := by rw [h, h2]
def lenOf : Value → Nat
  | .slice _ n _ => n
  | _ => 0
theorem trail_eq (p : Nat → UInt8) {met : Nat → Bool} {y f : Nat} (h : met y = false) (hf : 0 < f) : ∃ g, f = g + 1 ∧ trail p f met y = ((trail p g (upd met y true) (p y).toNat).1, (y : Int) :: (trail p g (upd met y true) (p y).toNat).2) := by
  obtain ⟨g, rfl⟩ : ∃ g, f = g + 1 := ⟨f - 1, by omega⟩
  exact ⟨g, rfl, trail_new p h g⟩
theorem info_longs : (Try.prog.info? 36).map (fun i => (i.zero, i.size, i.bytes)) = some (some (.slice none 0 0), 1, 24) := by kernel_rfl
set_option maxRecDepth 100000 in
set_option maxHeartbeats 1600000 in
theorem specCyclesOfPlaces (p : Nat → UInt8) (w : World) :
    Calls Try.prog 43 #[.agg (byteRow 16 p)] w fun e w' => ∃ v, e = .returned (.tuple #[v, .int .i64 (cpC p)]) ∧ (∃ vals, SS w' w.heap.size v (cpL p).length vals (lenL (cpL p)) (valL (cpL p))) ∧ Below w.heap.size w w' := by
  have k0 := Lib.hid (Blk.new w 67 (byteRow 16 p))
  have l := Lib.hid ((Below.refl w.heap.size w).alloc (Nat.le_refl _) (.cells (byteRow 16 p) 67))
  cases hp : placesB p with
  | false =>
    obtain ⟨hv, hc⟩ := cp_bad hp
    have C := fun w : World => l03Perm p w
    rw [hp] at C
    have C := Lib.hid C
    clear hp
    have Hv := Lib.hid hv; clear hv; have Hc := Lib.hid hc; clear hc
    go_enter Try.func43, Try.ntmps43
    go_wp2_with (refine wpList_loadH rfl _ _ rfl _ rfl (by assumption) Try.underlying67 rfl size67 (byteRow_size _ _) ?_)
    refine (C.out _).mono ?_
    rintro e wx ⟨rfl, hb⟩
    have l := carryS l hb
    clear hb
    go_wp2_with fail
    go_ret2
    exact ⟨_, ret_pairV rfl Hc.out.symm, ⟨fun _ => undef, by rw [Hv.out]; exact SS.nil rowF_nilS⟩, l.out⟩
  | true =>
    obtain ⟨hv, hc⟩ := cp_good hp
    have hsm := (places_of hp).1
    have C := fun w : World => l03Perm p w
    rw [hp] at C
    have C := Lib.hid C
    clear hp
    have Hv := Lib.hid hv; clear hv; have Hc := Lib.hid hc; clear hc
    obtain ⟨i0, hi, hz, hsz, hby⟩ := info_parts info_long
    obtain ⟨i1, hi1, hz1, hsz1, hby1⟩ := info_parts info_longs
    go_enter Try.func43, Try.ntmps43
    go_wp2_with (refine wpList_loadH rfl _ _ rfl _ rfl (by assumption) Try.underlying67 rfl size67 (byteRow_size _ _) ?_)
    refine (C.out _).mono ?_
    rintro e wx ⟨rfl, hb⟩
    have k0 := carryB k0 hb
    have l := carryS l hb
    have hgx := k0.out.lt
    clear hb C
    obtain ⟨ws, rfl⟩ : ∃ ws : World, ws = wx := ⟨_, rfl⟩
    go_wp2_with (first | (refine wpList_buildZ rfl _ rfl builtBool16 ?_) | (refine wpList_storeR rfl _ _ _ rfl _ _ rfl rfl ((Blk.newAt (by simp)).eq_ false16) size96 (boolRow_size _ _) (boolRow_size _ _) (boolRow_all _ _) ?_))
    have s0 : SS (ws.alloc (.cells #[] 36)) w.heap.size (.slice (some ⟨ws.heap.size, 0, none⟩) 0 0) ([] : List (List Int)).length (fun _ => undef) (lenL []) (valL []) := SS.nil (rowF_lit rfl (by omega))
    have s1 := Lib.hid ((s0.alloc (.cells #[.bool false, .bool false, .bool false, .bool false, .bool false, .bool false, .bool false, .bool false, .bool false, .bool false, .bool false, .bool false, .bool false, .bool false, .bool false, .bool false] 96)).farR (g := ws.heap.size + 1) ⟨fun g hg => by have e : ws.heap.size = g := Option.some.inj hg; omega, fun i hi => absurd hi (Nat.not_lt_zero i)⟩ (boolRow 16 (fun _ => false)))
    clear s0
    go_loopw [6, 5] (fun i v wr => ∃ (x : Nat) (V : Value) (vals : Nat → Value), x ≤ 16 ∧ i = .int .i64 x ∧ V = v ∧ SS wr w.heap.size V (trSt p x).2.length vals (lenL (trSt p x).2) (valL (trSt p x).2) ∧ Blk wr w.heap.size 67 (byteRow 16 p) ∧ Blk wr (ws.heap.size + 1) 96 (boolRow 16 (trSt p x).1) ∧ Below w.heap.size w wr)
      (fun i _ _ => 16 - (intOf i).toNat)
    case atStart =>
      exact ⟨0, _, fun _ => undef, by omega, rfl, rfl, s1.out, ((k0.out.alloc _).alloc _).rowFar (show w.heap.size ≠ ws.heap.size + 1 by omega) _, (Blk.newAt (by simp)).setRow _, below_row ((l.out.alloc (Nat.le_of_lt hgx) _).alloc (by simp; omega) _) (show w.heap.size ≤ ws.heap.size + 1 by omega) _⟩
    case round =>
      clear s1 k0 l
      obtain ⟨x, V, vals, hx, rfl, rfl, hs, b0, b1, hb⟩ := hrel
      by_cases hlt : x < 16
      · have hxi : (x : Int) < 16 := by omega
        have hst1 : (trSt p (x + 1)).1 = (trail p 16 (trSt p x).1 x).1 := rfl
        have hst2 : (trSt p (x + 1)).2 = if (trail p 16 (trSt p x).1 x).2 = [] then (trSt p x).2 else (trSt p x).2 ++ [(trail p 16 (trSt p x).1 x).2] := rfl
        have hll := trSt_len p x
        have hl1 := trail_len p 16 (trSt p x).1 x
        obtain ⟨M0, hM0⟩ : ∃ M0, (trSt p x).1 = M0 := ⟨_, rfl⟩
        obtain ⟨L0, hL0⟩ : ∃ L0, (trSt p x).2 = L0 := ⟨_, rfl⟩
        rw [hM0] at b1 hst1 hst2 hl1
        rw [hL0] at hs hst2 hll
        obtain ⟨M1, hM1⟩ : ∃ M1, (trail p 16 M0 x).1 = M1 := ⟨_, rfl⟩
        obtain ⟨l1, hl1e⟩ : ∃ l1, (trail p 16 M0 x).2 = l1 := ⟨_, rfl⟩
        rw [hM1] at hst1
        rw [hl1e] at hst2 hl1
        have hu := unm_le M0 16
        have hsz := hs.ssz
        have HM := Lib.hid hM1
        have HN := Lib.hid hl1e
        clear hM0 hL0 hM1 hl1e
        obtain ⟨Z, hZ⟩ : ∃ Z, wr.heap.size = Z := ⟨_, rfl⟩
        rw [hZ] at hsz
        have hZ0 : w.heap.size < Z := by rw [← hZ]; exact b0.lt
        have hZ1 : ws.heap.size + 1 < Z := by rw [← hZ]; exact b1.lt
        have hL := Lib.hid (LL.new (w := wr) (B := Z) (n := Z) (e := 2) hZ (Nat.le_refl _))
        have hs := hs.alloc (.cells #[] 2)
        have b0 := b0.alloc (.cells #[] 2)
        have b1 := b1.alloc (.cells #[] 2)
        have hb := hb.alloc (by omega) (.cells #[] 2)
        have hZs := Lib.hid hZ
        have Hs := Lib.hid hs; clear hs; have H0 := Lib.hid b0; clear b0; have H1 := Lib.hid b1; clear b1; have Hb := Lib.hid hb; clear hb; have Hst1 := Lib.hid hst1; clear hst1; have Hst2 := Lib.hid hst2; clear hst2; have Hsz := Lib.hid hsz; clear hsz
        go_wp2
        go_loopw [8, 7] (fun y v wr => ∃ (Y f : Nat) (U : Value) (L : List Int) (M : Nat → Bool), Y < 16 ∧ y = .int .u8 (Y : Int) ∧ U = v ∧ LL wr Z 2 U L ∧ unm M 16 ≤ f ∧ L.length + unm M 16 ≤ 16 ∧ Z ≤ wr.heap.size ∧ (trail p f M Y).1 = M1 ∧ L ++ (trail p f M Y).2 = l1 ∧ SS wr w.heap.size V L0.length vals (lenL L0) (valL L0) ∧ Blk wr w.heap.size 67 (byteRow 16 p) ∧ Blk wr (ws.heap.size + 1) 96 (boolRow 16 M) ∧ Below w.heap.size w wr)
          (fun _ v _ => 30 - lenOf v)
        case atStart => exact ⟨x, 16, _, [], M0, hlt, rfl, rfl, hL.out, hu, by simpa using hu, by simp; omega, HM.out, by rw [HN.out]; rfl, Hs.out, H0.out, H1.out, Hb.out⟩
        case round =>
          clear hL Hs H0 H1 Hb HM HN hu hZ hZs
          obtain ⟨Y, f, U, L, M, hY, rfl, rfl, hl, hf, hLu, hzw, hc1, hc2, hs, b0, b1, hb⟩ := hrel
          have hYi : (Y : Int) < 16 := by omega
          obtain ⟨a1, cap1, rfl, _, _, hform⟩ := hl.rowF.form
          cases hm : M Y with
          | true =>
            rw [trail_met p hm] at hc1 hc2
            have hc1 : M = M1 := hc1
            have hc2 : L = l1 := (List.append_nil L).symm.trans hc2
            subst hc2
            have c1 := b1.boolAt hY
            rw [hm] at c1
            clear hm
            by_cases hne : L ≠ []
            · have hL0 : L0.length < 1000000 := by omega
              have hB0 : w.heap.size ≤ (wr.alloc (.cells #[Value.slice a1 L.length cap1] 36)).heap.size := by have := hb.size; simp; omega
              have hB1 := hb.alloc hb.size (.cells #[Value.slice a1 L.length cap1] 36)
              have hsA := hs.alloc (.cells #[Value.slice a1 L.length cap1] 36)
              have hlA := hl.alloc (.cells #[Value.slice a1 L.length cap1] 36)
              have hl16 : L.length ≤ 16 := by omega
              have hZle : w.heap.size ≤ Z := by omega
              have hN0 : (0 : Int) < (L.length : Int) := by have := List.length_pos_iff.2 hne; omega
              rw [if_neg hne] at Hst2
              have hap0 := hs.row.apartBlk b0 (by decide)
              have hap1 := hs.row.apartBlk b1 (by decide)
              have Hl := Lib.hid hl; clear hl; have H0 := Lib.hid b0; clear b0; have H1 := Lib.hid b1; clear b1; have Hb := Lib.hid hb; clear hb; have Hs := Lib.hid hs; clear hs; have Hc1 := Lib.hid hc1; clear hc1; have Hne := Lib.hid hne; clear hne; have Hap0 := Lib.hid hap0; clear hap0; have Hap1 := Lib.hid hap1; clear hap1; have HB1 := Lib.hid hB1; clear hB1; have HsA := Lib.hid hsA; clear hsA; have HlA := Lib.hid hlA; clear hlA
              go_wp2_with (at_builtin; refine wpList_appendV rfl _ _ _ rfl w.heap.size 36 i1 (.slice none 0 0) Try.underlying64 hi1 hz1 rfl hsz1 hby1 _ _ vals rfl ?_ _ _ (.slice a1 L.length cap1) rfl ?_ rfl hL0 hB0 ?_; exact Hs.out.row.alloc _; exact cell_new1 rfl; intro vy wy hr hg; have BB := Lib.hid (below_grown HB1.out hg hB0 (fun q hq => (Hs.out.row.lt q hq).1)); have K0 := Lib.hid ((H0.out.alloc _).grown hg (fun hq => Hap0.out hq.symm)); have K1 := Lib.hid ((H1.out.alloc _).grown hg (fun hq => Hap1.out hq.symm)); have SN := Lib.hid (SS.snoc HsA.out HlA.out Hsz.out hZle Hne.out hl16 hr hg); clear hr hg)
              go_roundw
              case rel => exact ⟨x + 1, _, _, by omega, by go_num, rfl, by rw [Hst2.out]; exact SN.out, K0.out, K1.out.eq_ (by rw [Hst1.out, Hc1.out]), BB.out⟩
              case measure => simp [intOf]; omega
            · obtain rfl : L = [] := Classical.not_not.1 hne
              rw [if_pos rfl] at Hst2
              have Hl := Lib.hid hl; clear hl; have H0 := Lib.hid b0; clear b0; have H1 := Lib.hid b1; clear b1; have Hb := Lib.hid hb; clear hb; have Hs := Lib.hid hs; clear hs; have Hc1 := Lib.hid hc1; clear hc1
              go_wp2
              go_roundw
              case rel => exact ⟨x + 1, _, vals, by omega, by go_num, rfl, by rw [Hst2.out]; exact Hs.out, H0.out, H1.out.eq_ (by rw [Hst1.out, Hc1.out]), Hb.out⟩
              case measure => simp [intOf]; omega
          | false =>
            have hup := unm_upd M hm 16 hY
            obtain ⟨g, rfl, htr⟩ := trail_eq p hm (show 0 < f by omega)
            rw [htr] at hc1 hc2
            clear htr
            have hc1 : (trail p g (upd M Y true) (p Y).toNat).1 = M1 := hc1
            have hc2 : L ++ ((Y : Int) :: (trail p g (upd M Y true) (p Y).toNat).2) = l1 := hc2
            rw [show L ++ ((Y : Int) :: (trail p g (upd M Y true) (p Y).toNat).2) = (L ++ [(Y : Int)]) ++ (trail p g (upd M Y true) (p Y).toNat).2 by simp] at hc2
            have c0 := b0.byteAt hY
            have c1 := b1.boolAt hY
            rw [hm] at c1
            have f1 := b1.frozen Y
            have hpY := hsm Y hY
            have hap0 := hl.rowF.apartBlk b0 (by decide)
            have hap1 := hl.rowF.apartBlk b1 (by decide)
            have hl := hl.far (p := ⟨ws.heap.size + 1, Y, none⟩) hap1 (.bool true)
            have c0 := (show (wr.setCell ⟨ws.heap.size + 1, Y, none⟩ (.bool true)).cell? ⟨w.heap.size, Y, none⟩ = some (.int .u8 ((p Y).toNat : Int)) from (b0.farC (by omega) _).byteAt hY)
            have b0 := b0.farC (g' := ws.heap.size + 1) (i := Y) (by omega) (.bool true)
            have hs := hs.farB b1 (by decide) (by decide) Y (.bool true)
            have b1 := b1.boolPut Y true
            have hb := hb.setCell (p := ⟨ws.heap.size + 1, Y, none⟩) (by show _ ≤ ws.heap.size + 1; omega) (.bool true)
            have hszw := hb.size
            have Hl := Lib.hid hl; clear hl; have H0 := Lib.hid b0; clear b0; have H1 := Lib.hid b1; clear b1; have Hb := Lib.hid hb; clear hb; have Hs := Lib.hid hs; clear hs; have Hc1 := Lib.hid hc1; clear hc1; have Hc2 := Lib.hid hc2; clear hc2; have Hm := Lib.hid hm; clear hm; have Hup := Lib.hid hup; clear hup; have Hap0 := Lib.hid hap0; clear hap0; have Hap1 := Lib.hid hap1; clear hap1
            go_wp2_with (at_builtin; go_loud (refine wpList_appendL rfl _ _ _ rfl Z 2 i0 Try.underlying36 hi hz hsz hby _ _ rfl (Hl.out.alloc _) _ _ (Y : Int) rfl (cell_new1 (by simp)) (by omega) (by have := hzw; simp; omega) ?_; intro vy wy hl2 hg; have BB := Lib.hid (below_grown (Hb.out.alloc (by have := Hb.out.size; omega) _) hg (by have := Hb.out.size; simp; omega) (fun q hq => by have := (Hl.out.lt q hq).1; omega)); have K0 := Lib.hid ((H0.out.alloc _).grown hg (fun hq => Hap0.out hq.symm)); have K1 := Lib.hid ((H1.out.alloc _).grown hg (fun hq => Hap1.out hq.symm)); have SN := Lib.hid ((Hs.out.alloc _).grownG Hsz.out hg (fun q hq => (Hl.out.lt q hq).1)); have LY := Lib.hid hl2; have SZ : Z ≤ wy.heap.size := Nat.le_trans (by simp; omega) hg.size; have hc2 := K0.out.byteAt hY; clear hl2 hg))
            go_roundw
            case rel => exact ⟨(p Y).toNat, g, _, L ++ [(Y : Int)], upd M Y true, hpY, rfl, rfl, LY.out, by have := Hup.out; omega, by have := Hup.out; simp; omega, SZ, Hc1.out, Hc2.out, SN.out, K0.out, K1.out, BB.out⟩
            case measure =>
              obtain ⟨a2, cap2, rfl, _, _, _⟩ := LY.out.rowF.form
              have := Hup.out
              simp [lenOf]
              omega
      · obtain rfl : x = 16 := by omega
        have hxi : ¬ ((16 : Nat) : Int) < 16 := by omega
        have Hs := Lib.hid hs; clear hs; have Hb := Lib.hid hb; clear hb
        clear b0 b1
        go_wp2
        go_ret2
        exact ⟨_, ret_pairV rfl Hc.out.symm, ⟨vals, by rw [Hv.out]; exact Hs.out⟩, Hb.out⟩
set_option maxRecDepth 100000 in
set_option maxHeartbeats 1600000 in
theorem implCyclesOfPlaces (p : Nat → UInt8) (w : World) :
    Calls Try.prog 45 #[.agg (byteRow 16 p)] w fun e w' => ∃ v, e = .returned (.tuple #[v, .int .i64 (cpC p)]) ∧ (∃ vals, SS w' w.heap.size v (cpL p).length vals (lenL (cpL p)) (valL (cpL p))) ∧ Below w.heap.size w w' := by
  have k0 := Lib.hid (Blk.new w 67 (byteRow 16 p))
  have l := Lib.hid ((Below.refl w.heap.size w).alloc (Nat.le_refl _) (.cells (byteRow 16 p) 67))
  cases hp : placesB p with
  | false =>
    obtain ⟨hv, hc⟩ := cp_bad hp
    have C := fun w : World => implArePlaces p w
    rw [hp] at C
    have C := Lib.hid C
    clear hp
    have Hv := Lib.hid hv; clear hv; have Hc := Lib.hid hc; clear hc
    go_enter Try.func45, Try.ntmps45
    go_wp2_with (refine wpList_loadH rfl _ _ rfl _ rfl (by assumption) Try.underlying67 rfl size67 (byteRow_size _ _) ?_)
    refine (C.out _).mono ?_
    rintro e wx ⟨rfl, hb⟩
    have l := carryS l hb
    clear hb
    go_wp2_with fail
    go_ret2
    exact ⟨_, ret_pairV rfl Hc.out.symm, ⟨fun _ => undef, by rw [Hv.out]; exact SS.nil rowF_nilS⟩, l.out⟩
  | true =>
    obtain ⟨hv, hc⟩ := cp_good hp
    have hsm := (places_of hp).1
    have C := fun w : World => implArePlaces p w
    rw [hp] at C
    have C := Lib.hid C
    clear hp
    have Hv := Lib.hid hv; clear hv; have Hc := Lib.hid hc; clear hc
    obtain ⟨i0, hi, hz, hsz, hby⟩ := info_parts info_long
    obtain ⟨i1, hi1, hz1, hsz1, hby1⟩ := info_parts info_longs
    go_enter Try.func45, Try.ntmps45
    go_wp2_with (refine wpList_loadH rfl _ _ rfl _ rfl (by assumption) Try.underlying67 rfl size67 (byteRow_size _ _) ?_)
    refine (C.out _).mono ?_
    rintro e wx ⟨rfl, hb⟩
    have k0 := carryB k0 hb
    have l := carryS l hb
    have hgx := k0.out.lt
    clear hb C
    obtain ⟨ws, rfl⟩ : ∃ ws : World, ws = wx := ⟨_, rfl⟩
    go_wp2_with (first | (refine wpList_buildZ rfl _ rfl builtBool16 ?_) | (refine wpList_storeR rfl _ _ _ rfl _ _ rfl rfl ((Blk.newAt (by simp)).eq_ false16) size96 (boolRow_size _ _) (boolRow_size _ _) (boolRow_all _ _) ?_))
    have s0 : SS (ws.alloc (.cells #[] 36)) w.heap.size (.slice (some ⟨ws.heap.size, 0, none⟩) 0 0) ([] : List (List Int)).length (fun _ => undef) (lenL []) (valL []) := SS.nil (rowF_lit rfl (by omega))
    have s1 := Lib.hid ((s0.alloc (.cells #[.bool false, .bool false, .bool false, .bool false, .bool false, .bool false, .bool false, .bool false, .bool false, .bool false, .bool false, .bool false, .bool false, .bool false, .bool false, .bool false] 96)).farR (g := ws.heap.size + 1) ⟨fun g hg => by have e : ws.heap.size = g := Option.some.inj hg; omega, fun i hi => absurd hi (Nat.not_lt_zero i)⟩ (boolRow 16 (fun _ => false)))
    clear s0
    go_loopw [14, 4] (fun i v wr => ∃ (x : Nat) (V : Value) (vals : Nat → Value), x ≤ 16 ∧ i = .int .i64 x ∧ V = v ∧ SS wr w.heap.size V (trSt p x).2.length vals (lenL (trSt p x).2) (valL (trSt p x).2) ∧ Blk wr w.heap.size 67 (byteRow 16 p) ∧ Blk wr (ws.heap.size + 1) 96 (boolRow 16 (trSt p x).1) ∧ Below w.heap.size w wr)
      (fun i _ _ => 16 - (intOf i).toNat)
    case atStart =>
      exact ⟨0, _, fun _ => undef, by omega, rfl, rfl, s1.out, ((k0.out.alloc _).alloc _).rowFar (show w.heap.size ≠ ws.heap.size + 1 by omega) _, (Blk.newAt (by simp)).setRow _, below_row ((l.out.alloc (Nat.le_of_lt hgx) _).alloc (by simp; omega) _) (show w.heap.size ≤ ws.heap.size + 1 by omega) _⟩
    case round =>
      clear s1 k0 l
      obtain ⟨x, V, vals, hx, rfl, rfl, hs, b0, b1, hb⟩ := hrel
      by_cases hlt : x < 16
      · have hxi : (x : Int) < 16 := by omega
        have hst1 : (trSt p (x + 1)).1 = (trail p 16 (trSt p x).1 x).1 := rfl
        have hst2 : (trSt p (x + 1)).2 = if (trail p 16 (trSt p x).1 x).2 = [] then (trSt p x).2 else (trSt p x).2 ++ [(trail p 16 (trSt p x).1 x).2] := rfl
        have hll := trSt_len p x
        have hl1 := trail_len p 16 (trSt p x).1 x
        obtain ⟨M0, hM0⟩ : ∃ M0, (trSt p x).1 = M0 := ⟨_, rfl⟩
        obtain ⟨L0, hL0⟩ : ∃ L0, (trSt p x).2 = L0 := ⟨_, rfl⟩
        rw [hM0] at b1 hst1 hst2 hl1
        rw [hL0] at hs hst2 hll
        obtain ⟨M1, hM1⟩ : ∃ M1, (trail p 16 M0 x).1 = M1 := ⟨_, rfl⟩
        obtain ⟨l1, hl1e⟩ : ∃ l1, (trail p 16 M0 x).2 = l1 := ⟨_, rfl⟩
        rw [hM1] at hst1
        rw [hl1e] at hst2 hl1
        have hu := unm_le M0 16
        have hsz := hs.ssz
        have HM := Lib.hid hM1
        have HN := Lib.hid hl1e
        clear hM0 hL0 hM1 hl1e
        obtain ⟨Z, hZ⟩ : ∃ Z, wr.heap.size = Z := ⟨_, rfl⟩
        rw [hZ] at hsz
        have hZ0 : w.heap.size < Z := by rw [← hZ]; exact b0.lt
        have hZ1 : ws.heap.size + 1 < Z := by rw [← hZ]; exact b1.lt
        have hL := Lib.hid (LL.new (w := wr) (B := Z) (n := Z) (e := 2) hZ (Nat.le_refl _))
        have hs := hs.alloc (.cells #[] 2)
        have b0 := b0.alloc (.cells #[] 2)
        have b1 := b1.alloc (.cells #[] 2)
        have hb := hb.alloc (by omega) (.cells #[] 2)
        have hZs := Lib.hid hZ
        have Hs := Lib.hid hs; clear hs; have H0 := Lib.hid b0; clear b0; have H1 := Lib.hid b1; clear b1; have Hb := Lib.hid hb; clear hb; have Hst1 := Lib.hid hst1; clear hst1; have Hst2 := Lib.hid hst2; clear hst2; have Hsz := Lib.hid hsz; clear hsz
        go_wp2
        go_loopw [8, 7] (fun y v wr => ∃ (Y f : Nat) (U : Value) (L : List Int) (M : Nat → Bool), Y < 16 ∧ y = .int .u8 (Y : Int) ∧ U = v ∧ LL wr Z 2 U L ∧ unm M 16 ≤ f ∧ L.length + unm M 16 ≤ 16 ∧ Z ≤ wr.heap.size ∧ (trail p f M Y).1 = M1 ∧ L ++ (trail p f M Y).2 = l1 ∧ SS wr w.heap.size V L0.length vals (lenL L0) (valL L0) ∧ Blk wr w.heap.size 67 (byteRow 16 p) ∧ Blk wr (ws.heap.size + 1) 96 (boolRow 16 M) ∧ Below w.heap.size w wr)
          (fun _ v _ => 30 - lenOf v)
        case atStart => exact ⟨x, 16, _, [], M0, hlt, rfl, rfl, hL.out, hu, by simpa using hu, by simp; omega, HM.out, by rw [HN.out]; rfl, Hs.out, H0.out, H1.out, Hb.out⟩
        case round =>
          clear hL Hs H0 H1 Hb HM HN hu hZ hZs
          obtain ⟨Y, f, U, L, M, hY, rfl, rfl, hl, hf, hLu, hzw, hc1, hc2, hs, b0, b1, hb⟩ := hrel
          have hYi : (Y : Int) < 16 := by omega
          obtain ⟨a1, cap1, rfl, _, _, hform⟩ := hl.rowF.form
          cases hm : M Y with
          | true =>
            rw [trail_met p hm] at hc1 hc2
            have hc1 : M = M1 := hc1
            have hc2 : L = l1 := (List.append_nil L).symm.trans hc2
            subst hc2
            have c1 := b1.boolAt hY
            rw [hm] at c1
            clear hm
            by_cases hne : L ≠ []
            · have hL0 : L0.length < 1000000 := by omega
              have hB0 : w.heap.size ≤ (wr.alloc (.cells #[Value.slice a1 L.length cap1] 36)).heap.size := by have := hb.size; simp; omega
              have hB1 := hb.alloc hb.size (.cells #[Value.slice a1 L.length cap1] 36)
              have hsA := hs.alloc (.cells #[Value.slice a1 L.length cap1] 36)
              have hlA := hl.alloc (.cells #[Value.slice a1 L.length cap1] 36)
              have hl16 : L.length ≤ 16 := by omega
              have hZle : w.heap.size ≤ Z := by omega
              have hN0 : (0 : Int) < (L.length : Int) := by have := List.length_pos_iff.2 hne; omega
              rw [if_neg hne] at Hst2
              have hap0 := hs.row.apartBlk b0 (by decide)
              have hap1 := hs.row.apartBlk b1 (by decide)
              have Hl := Lib.hid hl; clear hl; have H0 := Lib.hid b0; clear b0; have H1 := Lib.hid b1; clear b1; have Hb := Lib.hid hb; clear hb; have Hs := Lib.hid hs; clear hs; have Hc1 := Lib.hid hc1; clear hc1; have Hne := Lib.hid hne; clear hne; have Hap0 := Lib.hid hap0; clear hap0; have Hap1 := Lib.hid hap1; clear hap1; have HB1 := Lib.hid hB1; clear hB1; have HsA := Lib.hid hsA; clear hsA; have HlA := Lib.hid hlA; clear hlA
              go_wp2_with (at_builtin; refine wpList_appendV rfl _ _ _ rfl w.heap.size 36 i1 (.slice none 0 0) Try.underlying64 hi1 hz1 rfl hsz1 hby1 _ _ vals rfl ?_ _ _ (.slice a1 L.length cap1) rfl ?_ rfl hL0 hB0 ?_; exact Hs.out.row.alloc _; exact cell_new1 rfl; intro vy wy hr hg; have BB := Lib.hid (below_grown HB1.out hg hB0 (fun q hq => (Hs.out.row.lt q hq).1)); have K0 := Lib.hid ((H0.out.alloc _).grown hg (fun hq => Hap0.out hq.symm)); have K1 := Lib.hid ((H1.out.alloc _).grown hg (fun hq => Hap1.out hq.symm)); have SN := Lib.hid (SS.snoc HsA.out HlA.out Hsz.out hZle Hne.out hl16 hr hg); clear hr hg)
              go_roundw
              case rel => exact ⟨x + 1, _, _, by omega, by go_num, rfl, by rw [Hst2.out]; exact SN.out, K0.out, K1.out.eq_ (by rw [Hst1.out, Hc1.out]), BB.out⟩
              case measure => simp [intOf]; omega
            · obtain rfl : L = [] := Classical.not_not.1 hne
              rw [if_pos rfl] at Hst2
              have Hl := Lib.hid hl; clear hl; have H0 := Lib.hid b0; clear b0; have H1 := Lib.hid b1; clear b1; have Hb := Lib.hid hb; clear hb; have Hs := Lib.hid hs; clear hs; have Hc1 := Lib.hid hc1; clear hc1
              go_wp2
              go_roundw
              case rel => exact ⟨x + 1, _, vals, by omega, by go_num, rfl, by rw [Hst2.out]; exact Hs.out, H0.out, H1.out.eq_ (by rw [Hst1.out, Hc1.out]), Hb.out⟩
              case measure => simp [intOf]; omega
          | false =>
            have hup := unm_upd M hm 16 hY
            obtain ⟨g, rfl, htr⟩ := trail_eq p hm (show 0 < f by omega)
            rw [htr] at hc1 hc2
            clear htr
            have hc1 : (trail p g (upd M Y true) (p Y).toNat).1 = M1 := hc1
            have hc2 : L ++ ((Y : Int) :: (trail p g (upd M Y true) (p Y).toNat).2) = l1 := hc2
            rw [show L ++ ((Y : Int) :: (trail p g (upd M Y true) (p Y).toNat).2) = (L ++ [(Y : Int)]) ++ (trail p g (upd M Y true) (p Y).toNat).2 by simp] at hc2
            have c0 := b0.byteAt hY
            have c1 := b1.boolAt hY
            rw [hm] at c1
            have f1 := b1.frozen Y
            have hpY := hsm Y hY
            have hap0 := hl.rowF.apartBlk b0 (by decide)
            have hap1 := hl.rowF.apartBlk b1 (by decide)
            have hl := hl.far (p := ⟨ws.heap.size + 1, Y, none⟩) hap1 (.bool true)
            have c0 := (show (wr.setCell ⟨ws.heap.size + 1, Y, none⟩ (.bool true)).cell? ⟨w.heap.size, Y, none⟩ = some (.int .u8 ((p Y).toNat : Int)) from (b0.farC (by omega) _).byteAt hY)
            have b0 := b0.farC (g' := ws.heap.size + 1) (i := Y) (by omega) (.bool true)
            have hs := hs.farB b1 (by decide) (by decide) Y (.bool true)
            have b1 := b1.boolPut Y true
            have hb := hb.setCell (p := ⟨ws.heap.size + 1, Y, none⟩) (by show _ ≤ ws.heap.size + 1; omega) (.bool true)
            have hszw := hb.size
            have Hl := Lib.hid hl; clear hl; have H0 := Lib.hid b0; clear b0; have H1 := Lib.hid b1; clear b1; have Hb := Lib.hid hb; clear hb; have Hs := Lib.hid hs; clear hs; have Hc1 := Lib.hid hc1; clear hc1; have Hc2 := Lib.hid hc2; clear hc2; have Hm := Lib.hid hm; clear hm; have Hup := Lib.hid hup; clear hup; have Hap0 := Lib.hid hap0; clear hap0; have Hap1 := Lib.hid hap1; clear hap1
            go_wp2_with (at_builtin; go_loud (refine wpList_appendL rfl _ _ _ rfl Z 2 i0 Try.underlying36 hi hz hsz hby _ _ rfl (Hl.out.alloc _) _ _ (Y : Int) rfl (cell_new1 (by simp)) (by omega) (by have := hzw; simp; omega) ?_; intro vy wy hl2 hg; have BB := Lib.hid (below_grown (Hb.out.alloc (by have := Hb.out.size; omega) _) hg (by have := Hb.out.size; simp; omega) (fun q hq => by have := (Hl.out.lt q hq).1; omega)); have K0 := Lib.hid ((H0.out.alloc _).grown hg (fun hq => Hap0.out hq.symm)); have K1 := Lib.hid ((H1.out.alloc _).grown hg (fun hq => Hap1.out hq.symm)); have SN := Lib.hid ((Hs.out.alloc _).grownG Hsz.out hg (fun q hq => (Hl.out.lt q hq).1)); have LY := Lib.hid hl2; have SZ : Z ≤ wy.heap.size := Nat.le_trans (by simp; omega) hg.size; have hc2 := K0.out.byteAt hY; clear hl2 hg))
            go_roundw
            case rel => exact ⟨(p Y).toNat, g, _, L ++ [(Y : Int)], upd M Y true, hpY, rfl, rfl, LY.out, by have := Hup.out; omega, by have := Hup.out; simp; omega, SZ, Hc1.out, Hc2.out, SN.out, K0.out, K1.out, BB.out⟩
            case measure =>
              obtain ⟨a2, cap2, rfl, _, _, _⟩ := LY.out.rowF.form
              have := Hup.out
              simp [lenOf]
              omega
      · obtain rfl : x = 16 := by omega
        have hxi : ¬ ((16 : Nat) : Int) < 16 := by omega
        have Hs := Lib.hid hs; clear hs; have Hb := Lib.hid hb; clear hb
        clear b0 b1
        go_wp2
        go_ret2
        exact ⟨_, ret_pairV rfl Hc.out.symm, ⟨vals, by rw [Hv.out]; exact Hs.out⟩, Hb.out⟩
end Go.Proofs.Ytnkfghoajpghkaa
