/- Contracts: the lengths of a box's cycles, by the program and by the reference, and the walk of the law. No condition. -/
import Derived.Test.YtoijoogonajopaaRows
import Derived.Test.YtoijoogonajopaaLaws
import Derived.Test.YtoijoogonajopaaCyc
import Derived.Test.YtoijoogonajopaaSort
set_option linter.unusedVariables false
namespace Go.Proofs.Ytoijoogonajopaa
open Go.RowKit Plain
theorem LL.rowFar {w : World} {B : Nat} {e : TypeId} {v : Value} {l : List Int} (h : LL w B e v l) {g : Nat} (hp : v.ownBlock ≠ some g) (cs : Array Value) : LL (w.setRow g cs) B e v l := by
  refine ⟨h.1, ?_⟩
  rcases h.2 with hn | ⟨g', cap, cur, rfl, hB, hg, rest⟩
  · exact .inl hn
  · refine .inr ⟨g', cap, cur, rfl, hB, ?_, rest⟩
    rw [setRow_other w g g' cs (fun e => hp (by rw [← e]; rfl))]
    exact hg
theorem newL_len (l : List Nat) : (newL l).length ≤ l.length := by
  unfold newL
  rw [List.length_map]
  exact List.length_filter_le _ _
theorem cycSt_first (b : Nat → UInt8) : ∀ x, 0 < x → ∃ n, 0 < n ∧ n ∈ (cycSt b x).2
  | 1, _ => by
    refine ⟨(cyc b 256 (fun _ => false) 0).2, ?_, ?_⟩
    · rw [cyc_new b 255 rfl]
      exact Nat.succ_pos _
    · show _ ∈ [] ++ [(cyc b 256 (fun _ => false) 0).2]
      simp
  | x + 2, _ => by
    obtain ⟨n, h1, h2⟩ := cycSt_first b (x + 1) (by omega)
    refine ⟨n, h1, ?_⟩
    show n ∈ (cycSt b (x + 1)).2 ++ [_]
    exact List.mem_append_left _ h2
theorem newL_pos (b : Nat → UInt8) : 0 < (newL (cycSt b 256).2).length := by
  obtain ⟨n, h1, h2⟩ := cycSt_first b 256 (by omega)
  have : (n : Int) ∈ newL (cycSt b 256).2 := List.mem_map.2 ⟨n, List.mem_filter.2 ⟨h2, by simpa using h1⟩, rfl⟩
  exact List.length_pos_of_mem this
set_option maxRecDepth 100000 in
set_option maxHeartbeats 800000 in
theorem boxCycles (b : Nat → UInt8) (w : World) :
    Calls Try.prog 24 #[.agg (byteRow 256 b)] w fun e w' => ∃ v, e = .returned v ∧ LL w' (w.heap.size + 1) 2 v (flatTo (cycSt b 256).2 256) ∧ Below w.heap.size w w' := by
  obtain ⟨i0, hi, hz, hsz, hby⟩ := info_parts info_long
  go_enter Try.func24, Try.ntmps24
  go_wp2_with (first | (refine wpList_buildZ rfl _ rfl builtBool ?_) | (refine wpList_storeR rfl _ _ _ rfl _ _ rfl rfl ((Blk.newAt (w := (w.alloc _).alloc _) (by simp)).eq_ zeroBool) sizeB (boolRow_size _ _) (boolRow_size _ _) (boolRow_all _ _) ?_))
  go_loopw [10, 3] (fun i v wr => ∃ (x : Nat) (V : Value), x ≤ 256 ∧ i = .int .i64 x ∧ V = v ∧ LL wr (w.heap.size + 1) 2 V (newL (cycSt b x).2) ∧ Blk wr w.heap.size 25 (byteRow 256 b) ∧ Blk wr (w.heap.size + 1 + 1) 46 (boolRow 256 (cycSt b x).1) ∧ w.heap.size + 3 ≤ wr.heap.size ∧ Below w.heap.size w wr)
    (fun i _ _ => 256 - (intOf i).toNat)
  case atStart =>
    exact ⟨0, _, by omega, rfl, rfl, LL.rowFar ((LL.new (w := w.alloc _) (n := w.heap.size + 1) (by simp) (by omega)).alloc _) (fun e => by have e2 : w.heap.size + 1 = w.heap.size + 1 + 1 := Option.some.inj e; omega) _, (((Blk.new w _ _).alloc _).alloc _).rowFar (by omega) _, ((Blk.newAt (w := (w.alloc _).alloc _) (by simp)).setRow _), by simp [World.setRow], below_row ((((Below.refl _ _).alloc (by omega) _).alloc (by simp) _).alloc (by simp; omega) _) (by omega) _⟩
  case round =>
    obtain ⟨x, V, hx, rfl, rfl, hl, b0, b1, hs3, hb⟩ := hrel
    by_cases hlt : x < 256
    · have hxi : (x : Int) < 256 := by omega
      have hst1 : (cycSt b (x + 1)).1 = (cyc b 256 (cycSt b x).1 x).1 := rfl
      have hst2 : (cycSt b (x + 1)).2 = (cycSt b x).2 ++ [(cyc b 256 (cycSt b x).1 x).2] := rfl
      have hll := newL_len (cycSt b x).2
      rw [cycSt_len] at hll
      obtain ⟨M0, hM0⟩ : ∃ M0, (cycSt b x).1 = M0 := ⟨_, rfl⟩
      obtain ⟨L0, hL0⟩ : ∃ L0, (cycSt b x).2 = L0 := ⟨_, rfl⟩
      obtain ⟨M1, hM1⟩ : ∃ M1, (cyc b 256 M0 x).1 = M1 := ⟨_, rfl⟩
      obtain ⟨n1, hn1⟩ : ∃ n1, (cyc b 256 M0 x).2 = n1 := ⟨_, rfl⟩
      rw [hM0] at b1 hst1 hst2
      rw [hL0] at hl hst2 hll
      rw [hM1] at hst1
      rw [hn1] at hst2
      have hu := unm_le M0 256
      have HM := Lib.hid hM1
      have HN := Lib.hid hn1
      clear hM0 hL0 hM1 hn1
      have Hl := Lib.hid hl; clear hl; have H0 := Lib.hid b0; clear b0; have H1 := Lib.hid b1; clear b1; have Hb := Lib.hid hb; clear hb; have Hst1 := Lib.hid hst1; clear hst1; have Hst2 := Lib.hid hst2; clear hst2
      obtain ⟨wo, rfl⟩ : ∃ wo : World, wo = wr := ⟨_, rfl⟩
      go_wp2
      go_loopw [7, 6] (fun y n wr => ∃ (Y N f : Nat) (M : Nat → Bool), Y < 256 ∧ y = .int .u8 (Y : Int) ∧ n = .int .i64 N ∧ unm M 256 ≤ f ∧ N + unm M 256 ≤ 256 ∧ (cyc b f M Y).1 = M1 ∧ N + (cyc b f M Y).2 = n1 ∧ LL wr (w.heap.size + 1) 2 V (newL L0) ∧ Blk wr w.heap.size 25 (byteRow 256 b) ∧ Blk wr (w.heap.size + 1 + 1) 46 (boolRow 256 M) ∧ w.heap.size + 3 ≤ wr.heap.size ∧ Below w.heap.size w wr)
        (fun _ n _ => 300 - (intOf n).toNat)
      case atStart => exact ⟨x, 0, 256, M0, hlt, rfl, rfl, hu, by omega, HM.out, by rw [Nat.zero_add]; exact HN.out, Hl.out, H0.out, H1.out, hs3, Hb.out⟩
      case round =>
        clear Hl H0 H1 Hb hs3
        obtain ⟨Y, N, f, M, hY, rfl, rfl, hf, hNu, hc1, hc2, hl, b0, b1, hs3, hb⟩ := hrel
        have hYi : (Y : Int) < 256 := by omega
        cases hm : M Y with
        | true =>
          rw [cyc_met b f hm] at hc1 hc2
          have hc1 : M = M1 := hc1
          have hNn : N = n1 := hc2
          have hN256 : N ≤ 256 := by omega
          have c1 := b1.boolAt hY
          rw [hm] at c1
          have hap0 := hl.apart b0 (by decide)
          have hap1 := hl.apart b1 (by decide)
          have hsn := newL_snoc L0 N
          clear hm hc2
          by_cases hN0 : 0 < N
          · have hNi : (0 : Int) < (N : Int) := by omega
            rw [if_pos hN0] at hsn
            have Hl := Lib.hid hl; clear hl; have H0 := Lib.hid b0; clear b0; have H1 := Lib.hid b1; clear b1; have Hb := Lib.hid hb; clear hb; have Hc1 := Lib.hid hc1; clear hc1; have HNn := Lib.hid hNn; clear hNn; have Hap0 := Lib.hid hap0; clear hap0; have Hap1 := Lib.hid hap1; clear hap1; have Hsn := Lib.hid hsn; clear hsn
            go_wp2_with (at_builtin; refine wpList_appendL rfl _ _ _ rfl (w.heap.size + 1) 2 i0 Try.underlying28 hi hz hsz hby _ _ rfl (Hl.out.alloc _) _ _ (N : Int) rfl (cell_new1 rfl) (by omega) (by simp; omega) ?_; intro vy wy hl hg; have SZ : w.heap.size + 3 ≤ wy.heap.size := Nat.le_trans (by simp; omega) hg.size; have BB := Lib.hid (below_grown (Hb.out.alloc (by omega) _) hg (by simp; omega) (fun q hq => by have := (Hl.out.lt q hq).1; omega)); have K0 := Lib.hid ((H0.out.alloc _).grown hg (fun hq => Hap0.out hq.symm)); have K1 := Lib.hid ((H1.out.alloc _).grown hg (fun hq => Hap1.out hq.symm)); have LY := Lib.hid hl; clear hl hg)
            go_roundw
            case rel => exact ⟨x + 1, _, by omega, by go_num, rfl, by rw [Hst2.out, ← HNn.out, Hsn.out]; exact LY.out, K0.out, K1.out.eq_ (by rw [Hst1.out, Hc1.out]), SZ, BB.out⟩
            case measure => simp [intOf]; omega
          · have hNi : ¬ (0 : Int) < (N : Int) := by omega
            rw [if_neg hN0] at hsn
            have Hl := Lib.hid hl; clear hl; have H0 := Lib.hid b0; clear b0; have H1 := Lib.hid b1; clear b1; have Hb := Lib.hid hb; clear hb; have Hc1 := Lib.hid hc1; clear hc1; have HNn := Lib.hid hNn; clear hNn; have Hsn := Lib.hid hsn; clear hsn
            go_wp2
            go_roundw
            case rel => exact ⟨x + 1, _, by omega, by go_num, rfl, by rw [Hst2.out, ← HNn.out, Hsn.out]; exact Hl.out, H0.out, H1.out.eq_ (by rw [Hst1.out, Hc1.out]), hs3, Hb.out⟩
            case measure => simp [intOf]; omega
        | false =>
          have hup := unm_upd M hm 256 hY
          obtain ⟨g, rfl⟩ : ∃ g, f = g + 1 := ⟨f - 1, by omega⟩
          rw [cyc_new b g hm] at hc1 hc2
          have hc1 : (cyc b g (upd M Y true) (b Y).toNat).1 = M1 := hc1
          have hc2 : N + ((cyc b g (upd M Y true) (b Y).toNat).2 + 1) = n1 := hc2
          have c0 := b0.byteAt hY
          have c1 := b1.boolAt hY
          rw [hm] at c1
          have f1 := b1.frozen Y
          have hby8 := (b Y).toNat_lt
          have hNb : N ≤ 256 := by omega
          have hap1 := hl.apart b1 (by decide)
          have Hl := Lib.hid hl; clear hl; have H0 := Lib.hid b0; clear b0; have H1 := Lib.hid b1; clear b1; have Hb := Lib.hid hb; clear hb; have Hc1 := Lib.hid hc1; clear hc1; have Hc2 := Lib.hid hc2; clear hc2; have Hm := Lib.hid hm; clear hm; have Hup := Lib.hid hup; clear hup; have Hap1 := Lib.hid hap1; clear hap1
          go_wp2
          go_roundw
          case rel => exact ⟨(b Y).toNat, N + 1, g, upd M Y true, by omega, rfl, by go_num, by have := Hup.out; omega, by have := Hup.out; omega, Hc1.out, by have := Hc2.out; omega, Hl.out.far (p := ⟨w.heap.size + 1 + 1, Y, none⟩) Hap1.out _, H0.out.farC (by omega) _, H1.out.boolPut Y true, by simpa [World.setCell] using hs3, Hb.out.setCell (p := ⟨w.heap.size + 1 + 1, Y, none⟩) (by show _ ≤ _ + 1 + 1; omega) _⟩
          case measure => simp [intOf]; have := Hup.out; omega
    · have hx6 : x = 256 := by omega
      have hxi : ¬ (x : Int) < 256 := by omega
      have hp := newL_pos b
      rw [← hx6] at hp
      have hle := cycSt_le b x
      have hll := newL_len (cycSt b x).2
      rw [cycSt_len] at hll
      have hso := sort_flat (cycSt b x).2 hle
      obtain ⟨a1, cap, rfl, _, _, hform⟩ := hl.rowF.form
      obtain ⟨g, rfl, hgB, hgs⟩ := hform.resolve_left (by omega)
      have C := slicesSort wr hl (by omega)
      rw [hso] at C
      have HX := Lib.hid hx6
      have C := Lib.hid C
      clear hl b0 b1 hp hle hso hform hx6
      have Hb := Lib.hid hb; clear hb
      go_wp2_with (go_at_call 31; refine C.out.mono ?_; rintro e wx ⟨rfl, hl2, hbb⟩; have LX := Lib.hid hl2; have BX := Lib.hid (hbb w w.heap.size Hb.out (by omega) (by omega)); clear hl2 hbb)
      go_ret
      have e9 : flatTo (cycSt b x).2 256 = flatTo (cycSt b 256).2 256 := congrArg (fun x => flatTo (cycSt b x).2 256) HX.out
      exact ⟨_, rfl, e9 ▸ LX.out, BX.out⟩
end Go.Proofs.Ytoijoogonajopaa
