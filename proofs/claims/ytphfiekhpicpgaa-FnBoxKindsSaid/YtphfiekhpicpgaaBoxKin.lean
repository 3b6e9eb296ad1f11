/- The walk of the law on kinds of boxes. No condition. -/
import Derived.Test.YtphfiekhpicpgaaRows
import Derived.Test.YtphfiekhpicpgaaKindP
import Derived.Test.YtphfiekhpicpgaaDrawT
import Derived.Test.YtphfiekhpicpgaaDice
import Derived.Test.YtphfiekhpicpgaaLike
import Derived.Test.YtphfiekhpicpgaaPowBox
import Derived.Test.YtphfiekhpicpgaaRot
import Derived.Test.YtphfiekhpicpgaaBox
import Derived.Test.YtphfiekhpicpgaaPower
import Derived.Test.YtphfiekhpicpgaaEqA
import Derived.Deep.DeepCutAuto
set_option linter.unusedVariables false
namespace Go.Proofs.Ytphfiekhpicpgaa
open Go.RowKit Plain
theorem xor_full (d : UInt8) : bits .xor .u8 (d.toNat : Int) 255 = ((d ^^^ 255).toNat : Int) := b_xor d 255
/-- The two ends of a good box of rotations. -/
theorem rot_ends2 {n : Nat} {f : Nat → Int} (c : UInt8) (h : rotGood n f = true) : (rotV n f c 0) = c ∧ (rotV n f c 255) = (if n % 2 = 1 then c ^^^ 255 else c) := by
  rw [(rot_good c h).1]
  exact rotBx_ends c h
theorem prod_facts (k N : Nat) (hk : k ≤ 256) (hN : N ≤ 20) : ∃ P Q T : Nat, prodK k N = T ∧ wrap64 ((k : Int) * (N : Int)) = (P : Int) ∧ (P : Int).tmod 255 = (Q : Int) ∧ (P : Int) % 255 = (Q : Int) ∧ T = (if Q = 0 then 255 else Q) := by
  have hb2 : k * N ≤ 256 * 20 := Nat.mul_le_mul hk hN
  obtain ⟨P, hP⟩ : ∃ P : Nat, k * N = P := ⟨_, rfl⟩
  have e1 : wrap64 ((k : Int) * (N : Int)) = (P : Int) := by
    rw [← Int.natCast_mul, hP]
    rw [hP] at hb2
    unfold wrap64
    omega
  refine ⟨P, P % 255, prodK k N, rfl, e1, ?_, by omega, by unfold prodK; rw [hP]⟩
  rw [Int.tmod_eq_emod_of_nonneg (by omega)]
  omega
set_option maxRecDepth 100000 in
set_option maxHeartbeats 8000000 in
theorem fnBoxKinds.walk (a0 : Option Addr) (n cap : Nat) (b0 : Nat → UInt8) (w : World) (hs : ByteS w a0 n cap b0) :
    Calls Try.prog 3 #[.slice a0 n cap] w fun e w' => e = .returned (.bool true) ∧ Below w.heap.size w w' := by
  have G := lbig a0 n cap w
  by_cases hn : n ≤ 4096
  · rw [decide_eq_false (show ¬ (4096 : Int) < (n : Int) by omega)] at G
    replace G := Lib.hid G
    have HS := Lib.hid hs
    clear hs
    go_enter Try.func3, Try.ntmps3
    have l := Lib.hid (Below.refl w.heap.size w)
    go_wp2_with fail
    refine G.out.mono ?_
    rintro e wx ⟨rfl, hw⟩
    obtain rfl : w = wx := hw.symm
    clear G
    go_wp2_with fail
    refine (drawPowerBox _ HS.out hn).mono ?_
    rintro e wx ⟨m, k, rfl, hm1, hm2, hk, hb⟩
    replace l := carryS l hb
    clear hb
    have EG := guardBox
    have Cp := Lib.hid (implPowerBox (m : Int) (k : Int))
    have Cq := Lib.hid (specPowerBox (m : Int) (k : Int))
    obtain ⟨U, hU⟩ : ∃ U, byteRow 256 (powBoxV (m : Int) (k : Int)) = U := ⟨_, rfl⟩
    have sU : U.size = 256 := by rw [← hU]; exact byteRow_size _ _
    have aU : U.all (·.oneCell') = true := by rw [← hU]; exact byteRow_all _ _
    have qU : ∀ w : World, (Op.equalIn 10000 27 (.agg U) (.agg U)).run Try.prog w = .ok true w := by rw [← hU]; exact eqBoxA _
    obtain ⟨c, hc⟩ : ∃ c, powBoxC (m : Int) (k : Int) = c := ⟨_, rfl⟩
    rw [hU, hc] at Cp Cq
    go_wp2_with fail
    refine (Cp.out _).mono ?_
    rintro e wx ⟨rfl, hb⟩
    replace l := carryS l hb
    clear hb
    obtain ⟨ws, rfl⟩ : ∃ ws : World, ws = wx := ⟨_, rfl⟩
    go_wp2_with (refine wpList_storeNew rfl _ _ _ rfl _ rfl rfl zeroBox size27 (byteRow_size _ _) sU aU ?_; intro wy kb hb; replace l := carryS l hb; replace kb := Lib.hid kb; clear hb)
    refine (Cq.out _).mono ?_
    rintro e wx ⟨rfl, hb⟩
    replace kb := carryB kb hb
    replace l := carryS l hb
    clear hb
    go_upto_region 6 with (refine wpList_storeNew rfl _ _ _ rfl _ rfl rfl zeroBox size27 (byteRow_size _ _) sU aU ?_; intro wy kd hb; replace kb := carryB kb hb; replace l := carryS l hb; replace kd := Lib.hid kd; clear hb)
    go_wp2_with (first | (refine wpList_loadG rfl _ _ rfl _ rfl (by with_reducible exact kb) Try.underlying27 rfl size27 sU ?_) | (refine wpList_loadG rfl _ _ rfl _ rfl (by with_reducible exact kd) Try.underlying27 rfl size27 sU ?_) | (refine wpList_neqU rfl _ _ _ _ rfl rfl rfl EG qU ?_))
    clear Cp Cq kd
    refine (drawRotationBox _ (HS.out.below l.out) hn).mono ?_
    rintro e wx ⟨v, L, d, rfl, hl, hL, hb⟩
    have rl : Hid (RowF wx 0 2 v L.length (lng (fun i => L.getD i 0))) := Lib.hid (hl.rowF.mono (Nat.zero_le _))
    clear hl
    replace kb := carryB kb hb
    replace l := carryS l hb
    clear hb
    obtain ⟨n1, hn1⟩ : ∃ n1, L.length = n1 := ⟨_, rfl⟩
    obtain ⟨f, hf⟩ : ∃ f : Nat → Int, (fun i => L.getD i 0) = f := ⟨_, rfl⟩
    rw [hn1, hf] at rl
    rw [hn1] at hL
    clear hn1 hf
    obtain ⟨av, cv, hv, _, _, _⟩ := rl.out.form
    subst hv
    have Rp := Lib.hid (fun w h => implRotationBox (n := n1) (f := f) (B := 0) (v := .slice av n1 cv) d w h)
    have Rq := Lib.hid (fun w h => specRotationBox (n := n1) (f := f) (B := 0) (v := .slice av n1 cv) d w h)
    obtain ⟨R, hR⟩ : ∃ R, rotV n1 f d = R := ⟨_, rfl⟩
    have hE : rotGood n1 f = true → R 0 = d ∧ R 255 = (if n1 % 2 = 1 then d ^^^ 255 else d) := fun h => by rw [← hR]; exact rot_ends2 d h
    have hC : rotGood n1 f = false → rotC n1 f = 2 := fun h => (rot_bad d h).2
    have hC0 : rotGood n1 f = true → rotC n1 f = 0 := fun h => (rot_good d h).2
    obtain ⟨r, hr⟩ : ∃ r, rotC n1 f = r := ⟨_, rfl⟩
    rw [hR, hr] at Rp Rq
    rw [hr] at hC hC0
    obtain ⟨V, hV⟩ : ∃ U, byteRow 256 R = U := ⟨_, rfl⟩
    have sV : V.size = 256 := by rw [← hV]; exact byteRow_size _ _
    have aV : V.all (·.oneCell') = true := by rw [← hV]; exact byteRow_all _ _
    have qV : ∀ w : World, (Op.equalIn 10000 27 (.agg V) (.agg V)).run Try.prog w = .ok true w := by rw [← hV]; exact eqBoxA _
    have h0V : V[0]? = some (.int .u8 ((R 0).toNat : Int)) := by rw [← hV]; exact byteRow_at R (by omega)
    have h255V : V[255]? = some (.int .u8 ((R 255).toNat : Int)) := by rw [← hV]; exact byteRow_at R (by omega)
    rw [hV] at Rp Rq
    clear hR hr hV
    go_wp2_with fail
    refine (Rp.out _ rl.out).mono ?_
    rintro e wx ⟨rfl, hb⟩
    replace kb := carryB kb hb
    replace rl := carryR rl hb
    replace l := carryS l hb
    clear hb
    obtain ⟨wt, rfl⟩ : ∃ wt : World, wt = wx := ⟨_, rfl⟩
    go_wp2_with (refine wpList_storeNew rfl _ _ _ rfl _ rfl rfl zeroBox size27 (byteRow_size _ _) sV aV ?_; intro wy kr hb; replace kb := carryB kb hb; replace rl := carryR rl hb; replace l := carryS l hb; replace kr := Lib.hid kr; clear hb)
    refine (Rq.out _ rl.out).mono ?_
    rintro e wx ⟨rfl, hb⟩
    replace kb := carryB kb hb
    replace kr := carryB kr hb
    replace rl := carryR rl hb
    replace l := carryS l hb
    clear hb
    go_upto_region 11 with (refine wpList_storeNew rfl _ _ _ rfl _ rfl rfl zeroBox size27 (byteRow_size _ _) sV aV ?_; intro wy kd hb; replace kb := carryB kb hb; replace kr := carryB kr hb; replace rl := carryR rl hb; replace l := carryS l hb; replace kd := Lib.hid kd; clear hb)
    clear Rp Rq rl
    have c0 := (kr.out.cell 0).trans h0V
    have c255 := (kr.out.cell 255).trans h255V
    clear h0V h255V
    have h13 : r = 2 ∨ (r = 0 ∧ R 0 = d ∧ ((R 255).toNat : Int) = bits .xor .u8 (d.toNat : Int) 255 ∧ (n1 : Int).tmod 2 = 1) ∨ (r = 0 ∧ R 0 = d ∧ R 255 = d ∧ (n1 : Int).tmod 2 = 0) := by
      cases hg : rotGood n1 f with
      | false => exact .inl (hC hg)
      | true =>
        obtain ⟨e0, e255⟩ := hE hg
        by_cases hp : n1 % 2 = 1
        · rw [if_pos hp] at e255
          exact .inr (.inl ⟨hC0 hg, e0, by rw [e255, xor_full], by show ((n1 % 2 : Nat) : Int) = 1; omega⟩)
        · rw [if_neg hp] at e255
          exact .inr (.inr ⟨hC0 hg, e0, e255, by show ((n1 % 2 : Nat) : Int) = 0; omega⟩)
    clear hE hC hC0
    have hpow : (fieldB (m : Int) = true ∧ 1 ≤ k ∧ k ≤ 255 ∧ c = 0 ∧ byteRow 256 (powF m k) = U) ∨ ((c != 0) = true ∧ byteRow 256 (fun _ => 0) = U) := by
      by_cases hgood : fieldB (m : Int) = true ∧ 1 ≤ k ∧ k ≤ 255
      · obtain ⟨hf, ku, kl⟩ := hgood
        obtain ⟨p1, p2⟩ := powBox_good hf ku kl
        exact .inl ⟨hf, ku, kl, hc.symm.trans p2, by rw [← p1]; exact hU⟩
      · obtain ⟨p1, p2⟩ := powBox_bad hgood
        rw [hc] at p2
        exact .inr ⟨by simpa using p2, by rw [← p1]; exact hU⟩
    clear hU hc
    have HP := Lib.hid hpow
    have H13 := Lib.hid h13
    clear hpow h13
    go_cut [76] (fun s w => s = .bool false ∧ w = wy)
    case first =>
      clear HP H13 c0 c255 kb l HS
      go_wp2_with (first | (refine wpList_loadG rfl _ _ rfl _ rfl (by with_reducible exact kr) Try.underlying27 rfl size27 sV ?_) | (refine wpList_loadG rfl _ _ rfl _ rfl (by with_reducible exact kd) Try.underlying27 rfl size27 sV ?_) | (refine wpList_neqU rfl _ _ _ _ rfl rfl rfl EG qV ?_))
      go_meet
      exact ⟨rfl, rfl⟩
    case rest =>
    obtain ⟨rfl, rfl⟩ := hcut
    clear kd kr
    go_upto_region 13 with fail
    go_cut [109] (fun s w => s = .bool false ∧ w = wc)
    case first =>
      clear HP kb l HS
      rcases H13.out with rfl | ⟨rfl, e0, e255, htm⟩ | ⟨rfl, e0, e255, htm⟩
      · go_wp2_with fail
        go_meet
        exact ⟨rfl, rfl⟩
      · have htm : ((n1 % 2 : Nat) : Int) = 1 := htm
        have hb1 : (n1 : Int) % 2 = 1 := by omega
        have hb0 : ¬ (n1 : Int) % 2 = 0 := by omega
        rw [e0] at c0
        rw [e255] at c255
        clear e0 e255 htm H13
        go_wp2_with fail
        go_meet
        exact ⟨rfl, rfl⟩
      · have htm : ((n1 % 2 : Nat) : Int) = 0 := htm
        have hb1 : ¬ (n1 : Int) % 2 = 1 := by omega
        have hb0 : (n1 : Int) % 2 = 0 := by omega
        rw [e0] at c0
        rw [e255] at c255
        clear e0 e255 htm H13
        go_wp2_with fail
        go_meet
        exact ⟨rfl, rfl⟩
    case rest =>
    obtain ⟨rfl, rfl⟩ := hcut
    clear c0 c255 H13 sV aV qV EG
    have hpow := HP.out
    clear HP
    rcases hpow with ⟨hf, ku, kl, rfl, hU⟩ | ⟨hcb, hU⟩
    · skip
      have hws := l.out.size
      have hbl := kb.out.lt
      go_wp2_with fail
      refine (lawsRoll 9002 _ (HS.out.below l.out) hn).mono ?_
      rintro e wx ⟨g, rfl, hD, hb⟩
      have hgB := hD.1
      have hwg : w.heap.size ≤ g := by omega
      have hne : some ws.heap.size ≠ some g := fun e => by injection e; omega
      have D := Lib.hid hD
      replace kb := carryB kb hb
      replace l := carryS l hb
      clear hb hD hgB hws hbl
      go_upto_region 18 with fail
      go_cut [16] (fun s w1 => ∃ N : Nat, 1 ≤ N ∧ N ≤ 20 ∧ s = .int .i64 (N : Int) ∧ Dic w1 wc.heap.size g ∧ Blk w1 ws.heap.size 27 U ∧ Below w.heap.size w w1)
      case first =>
        go_wp2_with fail
        refine (diceBelow D.out 20 (by omega) (by omega)).mono ?_
        rintro e wx ⟨x, hx, rfl, hs, hg⟩
        replace kb := Lib.hid (kb.out.grown hg hne)
        replace l := Lib.hid (below_grown l.out hg l.out.size (fun q hq => by injection hq with hq; omega))
        replace D := Lib.hid hs
        clear hs hg
        go_wp2_with fail
        go_meet
        exact ⟨x + 1, by omega, by omega, congrArg (Value.int .i64) (by omega), D.out, kb.out, l.out⟩
      case rest =>
      obtain ⟨N, hN1, hN2, rfl, hD, hbk, hl⟩ := hcut
      replace D := Lib.hid hD
      replace kb := Lib.hid hbk
      replace l := Lib.hid hl
      clear hD hbk hl
      obtain ⟨q1, q2⟩ := powBox_good (m := m) (k := N) hf (by omega) (by omega)
      have C2 := implPowerBox (m : Int) (N : Int)
      rw [q1, q2] at C2
      obtain ⟨U2, hU2⟩ : ∃ U, byteRow 256 (powF m N) = U := ⟨_, rfl⟩
      have sU2 : U2.size = 256 := by rw [← hU2]; exact byteRow_size _ _
      have aU2 : U2.all (·.oneCell') = true := by rw [← hU2]; exact byteRow_all _ _
      have qU2 : ∀ w : World, (Op.equalIn 10000 27 (.agg U2) (.agg U2)).run Try.prog w = .ok true w := by rw [← hU2]; exact eqBoxA _
      rw [hU2] at C2
      replace C2 := Lib.hid C2
      clear q1 q2
      go_wp2_with fail
      refine (C2.out _).mono ?_
      rintro e wx ⟨rfl, hb⟩
      replace kb := carryB kb hb
      replace D := Lib.hid (D.out.below hb)
      replace l := carryS l hb
      clear hb C2
      obtain ⟨r1, r2⟩ := prodK_in k N
      obtain ⟨t1, t2⟩ := powBox_good (m := m) (k := prodK k N) hf r1 r2
      have C3 := implPowerBox (m : Int) ((prodK k N : Nat) : Int)
      rw [t1, t2] at C3
      obtain ⟨U3, hU3⟩ : ∃ U, byteRow 256 (powF m (prodK k N)) = U := ⟨_, rfl⟩
      have sU3 : U3.size = 256 := by rw [← hU3]; exact byteRow_size _ _
      have aU3 : U3.all (·.oneCell') = true := by rw [← hU3]; exact byteRow_all _ _
      have qU3 : ∀ w : World, (Op.equalIn 10000 27 (.agg U3) (.agg U3)).run Try.prog w = .ok true w := by rw [← hU3]; exact eqBoxA _
      rw [hU3] at C3
      have CC : ∀ w, Calls Try.prog 15 #[.agg U, .agg U2] w fun e w' => e = .returned (.agg U3) ∧ Below w.heap.size w w' := by
        rw [← hU, ← hU2, ← hU3, ← powBox_pow hf ku kl (by omega) (by omega)]
        exact implComposeBoxes _ _
      replace CC := Lib.hid CC
      clear t1 t2 r1 r2
      go_upto_region 20 with (refine wpList_storeNew rfl _ _ _ rfl _ rfl rfl zeroBox size27 (byteRow_size _ _) sU2 aU2 ?_; intro wy k2 hb; replace kb := carryB kb hb; replace D := Lib.hid (D.out.below hb); replace l := carryS l hb; replace k2 := Lib.hid k2; clear hb)
      replace C3 := Lib.hid C3
      obtain ⟨P, Q, T, hT, hP0, hQ2, hQ3, hK⟩ := prod_facts k N hk hN2
      rw [hT] at C3
      clear hT
      have HK := Lib.hid hK
      clear hK
      go_cut [19] (fun s w1 => s = .int .i64 (Q : Int) ∧ w1 = wy)
      case first =>
        go_wp2_with fail
        go_meet
        exact ⟨rfl, rfl⟩
      case rest =>
      obtain ⟨rfl, rfl⟩ := hcut
      clear hP0 hQ2 hQ3
      go_upto_if 131 with fail
      go_cut [19] (fun s w1 => s = .int .i64 (T : Int) ∧ w1 = wc)
      case first =>
        by_cases h0 : Q = 0
        · subst h0
          have e0 : T = 255 := by rw [HK.out, if_pos rfl]
          subst e0
          go_wp2_with fail
          go_meet
          exact ⟨rfl, rfl⟩
        · have e0 : T = Q := by rw [HK.out, if_neg h0]
          subst e0
          have h1 : ¬ (T : Int) = 0 := by omega
          go_wp2_with fail
          go_meet
          exact ⟨rfl, rfl⟩
      case rest =>
      obtain ⟨rfl, rfl⟩ := hcut
      clear HK
      go_wp2_with fail
      refine (C3.out _).mono ?_
      rintro e wx ⟨rfl, hb⟩
      replace kb := carryB kb hb
      replace k2 := carryB k2 hb
      replace D := Lib.hid (D.out.below hb)
      replace l := carryS l hb
      clear hb C3
      go_upto_region 24 with (refine wpList_storeNew rfl _ _ _ rfl _ rfl rfl zeroBox size27 (byteRow_size _ _) sU3 aU3 ?_; intro wy k3 hb; replace kb := carryB kb hb; replace k2 := carryB k2 hb; replace D := Lib.hid (D.out.below hb); replace l := carryS l hb; replace k3 := Lib.hid k3; clear hb)
      have qb : ∀ w', Cls wy w' → Blk w' _ 27 U := fun w' hC => kb.out.below hC kb.out.lt
      have qc : ∀ w', Cls wy w' → Blk w' _ 27 U2 := fun w' hC => k2.out.below hC k2.out.lt
      have qd : ∀ w', Cls wy w' → Blk w' _ 27 U3 := fun w' hC => k3.out.below hC k3.out.lt
      replace qb := Lib.hid qb
      replace qc := Lib.hid qc
      replace qd := Lib.hid qd
      refine wp_region_quiet (C := Cls wy) (by kernel_rfl) (by kernel_rfl) (cls_drew wy) ?_
      refine q_val (by kernel_rfl) (.int .i64 0) (fun w' hC => by kernel_rfl) ?_
      refine q_val (by kernel_rfl) (.bool false) (fun w' hC => by kernel_rfl) ?_
      simp only [Act.put, List.setIfInBounds_toArray, List.set_cons_zero, List.set_cons_succ]
      refine q_val (by kernel_rfl) (.bool false) (fun w' hC => by kernel_rfl) ?_
      refine q_val (by kernel_rfl) (.int .i64 0) (fun w' hC => by kernel_rfl) ?_
      simp only [Act.put, List.setIfInBounds_toArray, List.set_cons_zero, List.set_cons_succ]
      refine q_val (by kernel_rfl) (.bool false) (fun w' hC => by kernel_rfl) ?_
      refine q_val (by kernel_rfl) (.bool false) (fun w' hC => by kernel_rfl) ?_
      simp only [Act.put, List.setIfInBounds_toArray, List.set_cons_zero, List.set_cons_succ]
      refine q_val (by kernel_rfl) (.bool false) (fun w' hC => by kernel_rfl) ?_
      refine q_loadR (by kernel_rfl) _ _ rfl _ (by kernel_rfl) qb.out Try.underlying27 rfl size27 sU ?_
      simp only [Act.put, List.setIfInBounds_toArray, List.set_cons_zero, List.set_cons_succ]
      refine q_loadR (by kernel_rfl) _ _ rfl _ (by kernel_rfl) qc.out Try.underlying27 rfl size27 sU2 ?_
      refine q_call (by kernel_rfl) 15 #[.agg U, .agg U2] (.agg U3) (fun w' hC => by kernel_rfl) (cls_call CC.out) ?_
      simp only [Act.put, List.setIfInBounds_toArray, List.set_cons_zero, List.set_cons_succ]
      refine q_loadR (by kernel_rfl) _ _ rfl _ (by kernel_rfl) qd.out Try.underlying27 rfl size27 sU3 ?_
      refine q_val (by kernel_rfl) (.bool false) (fun w' hC => exec_neqU _ _ _ _ rfl (by kernel_rfl) (by kernel_rfl) guardBox qU3 w') ?_
      simp only [Act.put, List.setIfInBounds_toArray, List.set_cons_zero, List.set_cons_succ]
      refine q_val (by kernel_rfl) (.bool false) (fun w' hC => by kernel_rfl) ?_
      refine wpQuiet_nil ?_
      intro wx hC
      simp only [Act.put, List.setIfInBounds_toArray, List.set_cons_zero, List.set_cons_succ]
      replace kb := carryB kb hC
      replace D := Lib.hid (D.out.below hC)
      replace l := carryS l hC
      clear hC k2 k3 CC qb qc qd
      go_wp2_with fail
      refine (diceBelow D.out 256 (by omega) (by omega)).mono ?_
      rintro e wx ⟨y, hy, rfl, hs, hg⟩
      replace kb := Lib.hid (kb.out.grown hg hne)
      replace l := Lib.hid (below_grown l.out hg l.out.size (fun q hq => by injection hq with hq; omega))
      clear hs hg D
      have hwy := wrapU8_small hy
      have C4 := implPowerIn (m : Int) y (k : Int) hy
      rw [powerIn_box hf kl hy] at C4
      have hUy : U[y]? = some (.int .u8 ((powF m k y).toNat : Int)) := by rw [← hU]; exact byteRow_at _ hy
      have cy := (kb.out.cell y).trans hUy
      obtain ⟨z, hz⟩ : ∃ z : Int, ((powF m k y).toNat : Int) = z := ⟨_, rfl⟩
      rw [hz] at C4 cy
      replace C4 := Lib.hid C4
      have hyi : (y : Int) < 256 := by omega
      clear hUy hz
      go_wp2_with fail
      refine (C4.out _).mono ?_
      rintro e wx ⟨rfl, rfl⟩
      go_wp2_with fail
      go_ret
      exact ⟨rfl, l.out⟩
    · skip
      have hbU : Try.prog.built 27 [] = some U := by rw [← hU]; exact builtBox
      clear hU
      go_wp2_with (first | (refine wpList_loadR rfl _ _ rfl _ rfl kb.out Try.underlying27 rfl size27 sU ?_) | (refine wpList_buildZ rfl _ rfl hbU ?_))
      go_ret
      exact ⟨rfl, l.out⟩

  · rw [decide_eq_true (show (4096 : Int) < (n : Int) by omega)] at G
    replace G := Lib.hid G
    clear hs
    go_enter Try.func3, Try.ntmps3
    go_wp2_with fail
    refine G.out.mono ?_
    rintro e wx ⟨rfl, hw⟩
    obtain rfl : w = wx := hw.symm
    go_wp2_with fail
    go_ret
    exact ⟨rfl, Below.refl _ _⟩
end Go.Proofs.Ytphfiekhpicpgaa
