/- Contracts: the lengths of a box's cycles, by the reference. No condition. -/
import Derived.Test.YtoijoogonajopaaRows
import Derived.Test.YtoijoogonajopaaPerm
import Derived.Test.YtoijoogonajopaaBox
import Derived.Test.YtoijoogonajopaaSlices
import Derived.Test.YtoijoogonajopaaCycP
set_option linter.unusedVariables false
namespace Go.Proofs.Ytoijoogonajopaa
open Go.RowKit Plain
theorem LL.apart {w : World} {B g : Nat} {e t : TypeId} {v : Value} {l : List Int} {cs : Array Value} (h : LL w B e v l) (k : Blk w g t cs) (hne : e ≠ t) : v.ownBlock ≠ some g := by
  rcases h.2 with ⟨rfl, _⟩ | ⟨g', cap, cur, rfl, _, hg, _⟩
  · intro e; cases e
  · intro e2
    have e3 : g' = g := Option.some.inj e2
    subst e3
    have k2 : w.heap[g']? = some (.cells cs t (0, 0)) := k
    rw [hg] at k2
    injection k2 with k2
    injection k2 with _ k3 _
    exact hne k3
def cntF (l : List Nat) : Nat → Int := fun n => (l.count n : Int)
theorem cnt_snoc (l : List Nat) (n i : Nat) : upd (cntF l) n (cntF l n + 1) i = cntF (l ++ [n]) i := by
  unfold upd cntF
  rw [List.count_append, List.count_singleton]
  by_cases h : i = n
  · subst h; simp
  · have : (n == i) = false := by rw [beq_eq_false_iff_ne]; exact fun e => h e.symm
    rw [if_neg h, this]; simp
theorem cnt_le (l : List Nat) (n : Nat) : 0 ≤ cntF l n ∧ cntF l n ≤ l.length := by
  unfold cntF
  have := List.count_le_length (a := n) (l := l)
  omega
theorem flat_len (l : List Nat) (hl : l.length ≤ 256) : ∀ n, (flatTo l n).length ≤ 256 * n
  | 0 => Nat.le_refl _
  | n + 1 => by
    have h1 := flat_len l hl n
    have h2 := List.count_le_length (a := n + 1) (l := l)
    unfold flatTo
    rw [List.length_append, List.length_replicate]
    omega
theorem sizeB : (Try.prog.info? 46).map (·.size) = some 256 := by kernel_rfl
theorem sizeN : (Try.prog.info? 47).map (·.size) = some 257 := by kernel_rfl
theorem zeroN : Try.zeroCells47 = longRow 257 (fun _ => 0) := by kernel_rfl
theorem builtN : Try.prog.built 47 [] = some (longRow 257 (fun _ => 0)) := by kernel_rfl
set_option maxRecDepth 100000 in
set_option maxHeartbeats 1600000 in
theorem l02Cycles (b : Nat → UInt8) (w : World) :
    Calls Try.prog 22 #[.agg (byteRow 256 b)] w fun e w' => ∃ v, e = .returned v ∧ LL w' (w.heap.size + 1 + 1 + 1) 2 v (flatTo (cycSt b 256).2 256) ∧ Below w.heap.size w w' := by
  obtain ⟨i0, hi, hz, hsz, hby⟩ := info_parts info_long
  go_enter Try.func22, Try.ntmps22
  go_wp2_with (first | (refine wpList_buildZ rfl _ rfl builtBool ?_) | (refine wpList_buildZ rfl _ rfl builtN ?_) | (refine wpList_storeR rfl _ _ _ rfl _ _ rfl rfl (((Blk.newAt (w := w.alloc _) (by simp)).alloc _).eq_ zeroBool) sizeB (boolRow_size _ _) (boolRow_size _ _) (boolRow_all _ _) ?_) | (refine wpList_storeR rfl _ _ _ rfl _ _ rfl rfl (((Blk.newAt (w := (w.alloc _).alloc _) (by simp)).rowFar (by omega) _).eq_ zeroN) sizeN (longRow_size _ _) (longRow_size _ _) (longRow_all _ _) ?_))
  go_loopw [5] (fun i wr => ∃ x : Nat, x ≤ 256 ∧ i = .int .i64 x ∧ Blk wr w.heap.size 25 (byteRow 256 b) ∧ Blk wr (w.heap.size + 1) 46 (boolRow 256 (cycSt b x).1) ∧ Blk wr (w.heap.size + 1 + 1) 47 (longRow 257 (cntF (cycSt b x).2)) ∧ w.heap.size + 3 ≤ wr.heap.size ∧ Below w.heap.size w wr)
    (fun i _ => 256 - (intOf i).toNat)
  case atStart =>
    exact ⟨0, by omega, rfl, ((((Blk.new w _ _).alloc _).alloc _).rowFar (by omega) _).rowFar (by omega) _, (((Blk.newAt (w := w.alloc _) (by simp)).alloc _).setRow _).rowFar (by omega) _,
      (((Blk.newAt (w := (w.alloc _).alloc _) (by simp)).rowFar (by omega) _).setRow _).eq_ (longRow_congr fun i _ => by unfold cntF cycSt; simp), by simp [World.setRow], below_row (below_row ((((Below.refl _ _).alloc (by omega) _).alloc (by simp) _).alloc (by simp; omega) _) (by omega) _) (by omega) _⟩
  case round =>
    obtain ⟨x, hx, rfl, b0, b1, b2, hs3, hb⟩ := hrel
    by_cases hlt : x < 256
    · have hxi : (x : Int) < 256 := by omega
      have hst1 : (cycSt b (x + 1)).1 = (cyc b 256 (cycSt b x).1 x).1 := rfl
      have hst2 : (cycSt b (x + 1)).2 = (cycSt b x).2 ++ [(cyc b 256 (cycSt b x).1 x).2] := rfl
      have hll := cycSt_len b x
      obtain ⟨M0, hM0⟩ : ∃ M0, (cycSt b x).1 = M0 := ⟨_, rfl⟩
      obtain ⟨L0, hL0⟩ : ∃ L0, (cycSt b x).2 = L0 := ⟨_, rfl⟩
      obtain ⟨M1, hM1⟩ : ∃ M1, (cyc b 256 M0 x).1 = M1 := ⟨_, rfl⟩
      obtain ⟨n1, hn1⟩ : ∃ n1, (cyc b 256 M0 x).2 = n1 := ⟨_, rfl⟩
      rw [hM0] at b1 hst1 hst2
      rw [hL0] at b2 hst2 hll
      rw [hM1] at hst1
      rw [hn1] at hst2
      have hu := unm_le M0 256
      have HM := Lib.hid hM1
      have HN := Lib.hid hn1
      clear hM0 hL0 hM1 hn1
      have H0 := Lib.hid b0; clear b0; have H1 := Lib.hid b1; clear b1; have H2 := Lib.hid b2; clear b2; have Hb := Lib.hid hb; clear hb; have Hst1 := Lib.hid hst1; clear hst1; have Hst2 := Lib.hid hst2; clear hst2
      obtain ⟨wo, rfl⟩ : ∃ wo : World, wo = wr := ⟨_, rfl⟩
      go_wp2
      go_loopw [7, 6] (fun y n wr => ∃ (Y N f : Nat) (M : Nat → Bool), Y < 256 ∧ y = .int .u8 (Y : Int) ∧ n = .int .i64 N ∧ unm M 256 ≤ f ∧ N + unm M 256 ≤ 256 ∧ (cyc b f M Y).1 = M1 ∧ N + (cyc b f M Y).2 = n1 ∧ Blk wr w.heap.size 25 (byteRow 256 b) ∧ Blk wr (w.heap.size + 1) 46 (boolRow 256 M) ∧ Blk wr (w.heap.size + 1 + 1) 47 (longRow 257 (cntF L0)) ∧ w.heap.size + 3 ≤ wr.heap.size ∧ Below w.heap.size w wr)
        (fun _ n _ => 300 - (intOf n).toNat)
      case atStart => exact ⟨x, 0, 256, M0, hlt, rfl, rfl, hu, by omega, HM.out, by rw [Nat.zero_add]; exact HN.out, H0.out, H1.out, H2.out, hs3, Hb.out⟩
      case round =>
        clear H0 H1 H2 Hb hs3
        obtain ⟨Y, N, f, M, hY, rfl, rfl, hf, hNu, hc1, hc2, b0, b1, b2, hs3, hb⟩ := hrel
        have hYi : (Y : Int) < 256 := by omega
        cases hm : M Y with
        | true =>
          rw [cyc_met b f hm] at hc1 hc2
          have hc1 : M = M1 := hc1
          have hc2 : N + 0 = n1 := hc2
          have hNn : N = n1 := hc2
          have hN257 : N < 257 := by omega
          have hNi : (N : Int) < 257 := by omega
          have c1 := b1.boolAt hY
          rw [hm] at c1
          have c2 := b2.longAt hN257
          have f2 := b2.frozen N
          have hcl := cnt_le L0 N
          obtain ⟨c, hc⟩ : ∃ c, cntF L0 N = c := ⟨_, rfl⟩
          have hput := fun i => cnt_snoc L0 N i
          rw [hc] at c2 hcl
          simp only [hc] at hput
          have hcl1 := hcl.1
          have hcl2 : c ≤ 256 := by omega
          clear hc hcl hm
          have H0 := Lib.hid b0; clear b0; have H1 := Lib.hid b1; clear b1; have H2 := Lib.hid b2; clear b2; have Hb := Lib.hid hb; clear hb; have Hput := Lib.hid hput; clear hput; have Hc1 := Lib.hid hc1; clear hc1; have HNn := Lib.hid hNn; clear hNn
          go_wp2
          go_roundw
          case rel => exact ⟨x + 1, by omega, by go_num, H0.out.farC (by omega) _, (H1.out.farC (by omega) _).eq_ (by rw [Hst1.out, Hc1.out]), (H2.out.longPut N (c + 1)).eq_ (longRow_congr fun i _ => by rw [Hst2.out, ← HNn.out]; exact Hput.out i), by simpa [World.setCell] using hs3, Hb.out.setCell (p := ⟨w.heap.size + 1 + 1, N, none⟩) (by show _ ≤ _ + 1 + 1; omega) _⟩
          case measure => simp [intOf]; omega
        | false =>
          have hup := unm_upd M hm 256 hY
          obtain ⟨g, rfl⟩ : ∃ g, f = g + 1 := ⟨f - 1, by omega⟩
          rw [cyc_new b g hm] at hc1 hc2
          have hc1 : (cyc b g (upd M Y true) (b Y).toNat).1 = M1 := hc1
          have hc2 : N + ((cyc b g (upd M Y true) (b Y).toNat).2 + 1) = n1 := hc2
          have c0 := b0.byteAt hY
          have c1 := b1.boolAt hY
          rw [hm] at c1
          have f1 := b1.frozen Y
          have hby := (b Y).toNat_lt
          have hNb : N ≤ 256 := by omega
          have H0 := Lib.hid b0; clear b0; have H1 := Lib.hid b1; clear b1; have H2 := Lib.hid b2; clear b2; have Hb := Lib.hid hb; clear hb; have Hc1 := Lib.hid hc1; clear hc1; have Hc2 := Lib.hid hc2; clear hc2; have Hm := Lib.hid hm; clear hm; have Hup := Lib.hid hup; clear hup
          go_wp2
          go_roundw
          case rel => exact ⟨(b Y).toNat, N + 1, g, upd M Y true, by omega, rfl, by go_num, by have := Hup.out; omega, by have := Hup.out; omega, Hc1.out, by have := Hc2.out; omega, H0.out.farC (by omega) _, H1.out.boolPut Y true, H2.out.farC (by omega) _, by simpa [World.setCell] using hs3, Hb.out.setCell (p := ⟨w.heap.size + 1, Y, none⟩) (by show _ ≤ _ + 1; omega) _⟩
          case measure => simp [intOf]; have := Hup.out; omega
    · have hx6 : x = 256 := by omega
      have hxi : ¬ (x : Int) < 256 := by omega
      have hll : (cycSt b x).2.length = 256 := by rw [cycSt_len, hx6]
      have HX := Lib.hid hx6
      clear hx6
      obtain ⟨L, hL⟩ : ∃ L, (cycSt b x).2 = L := ⟨_, rfl⟩
      rw [hL] at b2 hll
      have HLL := Lib.hid hL
      clear b0 b1 hL
      have H2 := Lib.hid b2; clear b2; have Hb := Lib.hid hb; clear hb
      obtain ⟨wo, rfl⟩ : ∃ wo : World, wo = wr := ⟨_, rfl⟩
      go_wp2
      go_loopw [9, 8] (fun i v wr => ∃ k : Nat, k ≤ 256 ∧ i = .int .i64 ((k : Int) + 1) ∧ LL wr (w.heap.size + 1 + 1 + 1) 2 v (flatTo L k) ∧ Blk wr (w.heap.size + 1 + 1) 47 (longRow 257 (cntF L)) ∧ w.heap.size + 3 ≤ wr.heap.size ∧ Below w.heap.size w wr)
        (fun i _ _ => 257 - (intOf i).toNat)
      case atStart => exact ⟨0, by omega, rfl, LL.new rfl (by omega), H2.out.alloc _, by simp; omega, Hb.out.alloc (by omega) _⟩
      case round =>
        clear H2 Hb hs3
        obtain ⟨k, hk, rfl, hl, b2, hs3, hb⟩ := hrel
        by_cases hkt : k < 256
        · have hki : (k : Int) + 1 ≤ 256 := by omega
          have hfl := flat_len L (by omega) k
          have hst : flatTo L (k + 1) = flatTo L k ++ List.replicate (L.count (k + 1)) ((k + 1 : Nat) : Int) := rfl
          have hCl := List.count_le_length (a := k + 1) (l := L)
          have c2 : wr.cell? ⟨w.heap.size + 1 + 1, k + 1, none⟩ = some (.int .i64 ((L.count (k + 1) : Nat) : Int)) := b2.longAt (i := k + 1) (by omega)
          obtain ⟨C, hC⟩ : ∃ C, L.count (k + 1) = C := ⟨_, rfl⟩
          rw [hC] at c2 hst hCl
          clear hC
          have Hl := Lib.hid hl; clear hl; have H2 := Lib.hid b2; clear b2; have Hb := Lib.hid hb; clear hb; have Hst := Lib.hid hst; clear hst
          obtain ⟨wo, rfl⟩ : ∃ wo : World, wo = wr := ⟨_, rfl⟩
          go_wp2
          go_loopw [10, 8] (fun c v wr => ∃ j : Nat, j ≤ C ∧ c = .int .i64 j ∧ LL wr (w.heap.size + 1 + 1 + 1) 2 v (flatTo L k ++ List.replicate (C - j) ((k + 1 : Nat) : Int)) ∧ Blk wr (w.heap.size + 1 + 1) 47 (longRow 257 (cntF L)) ∧ w.heap.size + 3 ≤ wr.heap.size ∧ Below w.heap.size w wr)
            (fun c _ _ => (intOf c).toNat)
          case atStart => exact ⟨C, Nat.le_refl _, rfl, by rw [Nat.sub_self]; simpa using Hl.out, H2.out, hs3, Hb.out⟩
          case round =>
            clear Hl H2 Hb hs3 c2
            obtain ⟨j, hj, rfl, hl, b2, hs3, hb⟩ := hrel
            by_cases hj0 : 0 < j
            · have hji : (0 : Int) < (j : Int) := by omega
              have hap := hl.apart b2 (by decide)
              have hlen : (flatTo L k ++ List.replicate (C - j) ((k + 1 : Nat) : Int)).length < 1000000 := by rw [List.length_append, List.length_replicate]; omega
              have hrep : flatTo L k ++ List.replicate (C - j) ((k + 1 : Nat) : Int) ++ [(k : Int) + 1] = flatTo L k ++ List.replicate (C - (j - 1)) ((k + 1 : Nat) : Int) := by
                rw [List.append_assoc, show C - (j - 1) = (C - j) + 1 by omega, List.replicate_succ']
                rfl
              obtain ⟨J, hJ⟩ : ∃ J, j - 1 = J := ⟨_, rfl⟩
              rw [hJ] at hrep
              have hJi : (j : Int) - 1 = (J : Int) := by omega
              have Hl := Lib.hid hl; clear hl; have H2 := Lib.hid b2; clear b2; have Hb := Lib.hid hb; clear hb; have Hap := Lib.hid hap; clear hap; have Hlen := Lib.hid hlen; clear hlen; have Hrep := Lib.hid hrep; clear hrep
              go_wp2_with (at_builtin; refine wpList_appendL rfl _ _ _ rfl (w.heap.size + 1 + 1 + 1) 2 i0 Try.underlying28 hi hz hsz hby _ _ rfl (Hl.out.alloc _) _ _ ((k : Int) + 1) rfl (cell_new1 rfl) Hlen.out (by simp; omega) ?_; intro vy wy hl hg; have SZ : w.heap.size + 3 ≤ wy.heap.size := Nat.le_trans (by simp; omega) hg.size; have BB := Lib.hid (below_grown (Hb.out.alloc (by omega) _) hg (by simp; omega) (fun q hq => by have := (Hl.out.lt q hq).1; omega)); have K2 := Lib.hid ((H2.out.alloc _).grown hg (fun hq => Hap.out hq.symm)); have LY := Lib.hid hl; clear hl hg)
              go_roundw
              case rel => exact ⟨J, by omega, by go_num, by rw [← Hrep.out]; exact LY.out, K2.out, SZ, BB.out⟩
              case measure => simp [intOf]; omega
            · obtain rfl : j = 0 := by omega
              rw [Nat.sub_zero] at hl
              have Hl := Lib.hid hl; clear hl; have H2 := Lib.hid b2; clear b2; have Hb := Lib.hid hb; clear hb
              go_wp2
              go_roundw
              case rel => exact ⟨k + 1, by omega, by go_num, by rw [Hst.out]; exact Hl.out, H2.out, hs3, Hb.out⟩
              case measure => simp [intOf]; omega
        · obtain rfl : k = 256 := by omega
          have Hl := Lib.hid hl; clear hl; have Hb := Lib.hid hb; clear hb
          go_wp2
          go_ret
          exact ⟨_, rfl, by rw [show (cycSt b 256).2 = L by rw [← HLL.out, HX.out]]; exact Hl.out, Hb.out⟩
end Go.Proofs.Ytoijoogonajopaa
