/- The walk of the law on the tables of boxes. No condition. -/
import Derived.Test.YtphfiekhpicpgaaRows
import Derived.Test.YtphfiekhpicpgaaTabP
import Derived.Test.YtphfiekhpicpgaaDrawT
import Derived.Test.YtphfiekhpicpgaaLike
import Derived.Test.YtphfiekhpicpgaaFixed
import Derived.Test.YtphfiekhpicpgaaUni
import Derived.Test.YtphfiekhpicpgaaBias
import Derived.Test.YtphfiekhpicpgaaLinB
import Derived.Test.YtphfiekhpicpgaaDeg
import Derived.Test.YtphfiekhpicpgaaPerm
set_option linter.unusedVariables false
namespace Go.Proofs.Ytphfiekhpicpgaa
open Go.RowKit Plain
theorem tmod_even {z : Int} (h0 : 0 ≤ z) (h : z % 2 = 0) : z.tmod 2 = 0 := by
  rw [Int.tmod_eq_emod_of_nonneg h0]; exact h
theorem sq_bound {o : Int} (h1 : -256 ≤ o) (h2 : o ≤ 256) : 0 ≤ o * o ∧ o * o ≤ 65536 := by
  obtain ⟨n, hn | hn⟩ := Int.eq_nat_or_neg o <;> subst hn
  · have h : n * n ≤ 256 * 256 := Nat.mul_le_mul (by omega) (by omega)
    have e : ((n : Int) * n) = ((n * n : Nat) : Int) := by push_cast; rfl
    rw [e]; omega
  · have h : n * n ≤ 256 * 256 := Nat.mul_le_mul (by omega) (by omega)
    have e : (-(n : Int) * -(n : Int)) = ((n * n : Nat) : Int) := by rw [Int.neg_mul_neg]; push_cast; rfl
    rw [e]; omega
theorem sq_sum {f : Nat → Int} (h : ∀ i, i < 256 → 0 ≤ f i ∧ f i ≤ 65536) : ∀ k : Nat, k ≤ 256 → 0 ≤ sumF f k ∧ sumF f k ≤ 65536 * k
  | 0, _ => ⟨Int.le_refl _, Int.le_refl _⟩
  | k + 1, hk => by
    have h1 := sq_sum h k (by omega)
    have h2 := h k (by omega)
    show 0 ≤ sumF f k + f k ∧ sumF f k + f k ≤ 65536 * ((k + 1 : Nat) : Int)
    omega
set_option maxRecDepth 100000 in
set_option maxHeartbeats 8000000 in
theorem fnBoxTables.walk (a0 : Option Addr) (n cap : Nat) (b0 : Nat → UInt8) (w : World) (hs : ByteS w a0 n cap b0) :
    Calls Try.prog 5 #[.slice a0 n cap] w fun e w' => e = .returned (.bool true) ∧ Below w.heap.size w w' := by
  have G := lbig a0 n cap w
  by_cases hn : n ≤ 4096
  · rw [decide_eq_false (show ¬ (4096 : Int) < (n : Int) by omega)] at G
    have G := Lib.hid G
    have HS := Lib.hid hs
    clear hs
    go_enter Try.func5, Try.ntmps5
    have l := Lib.hid (Below.refl w.heap.size w)
    go_wp2_with fail
    refine G.out.mono ?_
    rintro e wx ⟨rfl, hw⟩
    obtain rfl : w = wx := hw.symm
    clear G
    go_wp2_with fail
    refine (drawDifferencesOf _ HS.out hn).mono ?_
    rintro e wx ⟨b, d, rfl, hb⟩
    have l := carryS l hb
    clear hb
    obtain ⟨ws, rfl⟩ : ∃ ws : World, ws = wx := ⟨_, rfl⟩
    go_wp2_with (first | (refine wpList_loadH rfl _ _ rfl _ rfl (by assumption) Try.underlying27 rfl size27 (byteRow_size _ _) ?_) | (refine wpList_storeNew rfl _ _ _ rfl _ rfl rfl zeroBox size27 (byteRow_size _ _) (byteRow_size _ _) (byteRow_all _ _) ?_; intro wy kb hb; have l := carryS l hb; have kb := Lib.hid kb; clear hb))
    refine (implDifferencesOf b d _).mono ?_
    rintro e wx ⟨vl, rfl, hr, hb⟩
    have kb := carryB kb hb
    have l := carryS l hb
    have rl := Lib.hid (hr.mono (Nat.zero_le _))
    clear hr hb
    go_wp2_with (refine wpList_loadH rfl _ _ rfl _ rfl (by assumption) Try.underlying27 rfl size27 (byteRow_size _ _) ?_)
    refine (specDifferencesOf b d _).mono ?_
    rintro e wx ⟨vd, rfl, hr, hb⟩
    have kb := carryB kb hb
    have l := carryS l hb
    have rl := carryR rl hb
    have rd := Lib.hid hr
    clear hr hb
    go_wp2_with fail
    refine (likeInts _ rl.out rd.out).mono ?_
    rintro e wx ⟨rfl, hb⟩
    have kb := carryB kb hb
    have l := carryS l hb
    have rl := carryR rl hb
    clear hb rd
    obtain ⟨al, cl, hvl, _, _, fl⟩ := rl.out.form
    subst hvl
    obtain ⟨gl, rfl, _, _⟩ := fl.resolve_left (by omega)
    clear fl
    go_wp2_with fail
    refine (lsum _ rl.out (by omega) (fun i hi => by have := diffTo_le b d 256 i; omega)).mono ?_
    rintro e wx ⟨rfl, hb⟩
    have kb := carryB kb hb
    have l := carryS l hb
    have rl := carryR rl hb
    clear hb
    rw [diff_total b d 256]
    go_wp2_with (refine wpList_loadH rfl _ _ rfl _ rfl (by assumption) Try.underlying27 rfl size27 (byteRow_size _ _) ?_)
    refine (implUniformityOf b _).mono ?_
    rintro e wx ⟨rfl, hb⟩
    have kb := carryB kb hb
    have l := carryS l hb
    have rl := carryR rl hb
    clear hb
    go_wp2_with (refine wpList_loadH rfl _ _ rfl _ rfl (by assumption) Try.underlying27 rfl size27 (byteRow_size _ _) ?_)
    refine (specUniformityOf b _).mono ?_
    rintro e wx ⟨rfl, hb⟩
    have kb := carryB kb hb
    have l := carryS l hb
    have rl := carryR rl hb
    clear hb
    have hU := diff_uni b d
    obtain ⟨U, eU⟩ : ∃ U, uniTo b 255 = U := ⟨_, rfl⟩
    rw [eU] at hU ⊢
    have hU := Lib.hid hU
    clear eU
    go_wp2_with fail
    go_loopw [7] (fun i wr => ∃ k : Nat, k ≤ 256 ∧ i = .int .i64 k ∧ RowF wr 0 2 (.slice (some ⟨gl, 0, none⟩) 256 cl) 256 (lng (diffTo b d 256)) ∧ Below w.heap.size w wr)
      (fun i _ => 256 - (intOf i).toNat)
    case atStart => exact ⟨0, by omega, rfl, rl.out, l.out⟩
    case round =>
      clear kb rl l
      obtain ⟨k, hk, rfl, hrl, hb⟩ := hrel
      by_cases hlt : k < 256
      · have hki : (k : Int) < 256 := by omega
        have c1 : wr.cell? ⟨gl, k, none⟩ = some (.int .i64 (diffTo b d 256 k)) := hrl.at_ hlt
        have h0 := (diffTo_le b d 256 k).1
        have h2 := tmod_even h0 (diff_even b d k)
        have hu := fun hd => hU.out hd hlt
        obtain ⟨z, hz⟩ : ∃ z, diffTo b d 256 k = z := ⟨_, rfl⟩
        rw [hz] at c1 h0 h2 hu
        have h0 : ¬ z < 0 := by omega
        clear hz
        have Hrl := Lib.hid hrl; clear hrl; have Hb := Lib.hid hb; clear hb
        by_cases hd : d.toNat = 0
        · have hdi : (d.toNat : Int) = 0 := by omega
          clear hu
          rw [hdi]
          go_wp2
          go_roundw
          case rel => exact ⟨k + 1, by omega, by go_num, Hrl.out, Hb.out⟩
          case measure => simp [intOf]; omega
        · have hdi : ¬ (d.toNat : Int) = 0 := by omega
          have hu : ¬ U < z := by have := hu hd; omega
          go_wp2
          go_roundw
          case rel => exact ⟨k + 1, by omega, by go_num, Hrl.out, Hb.out⟩
          case measure => simp [intOf]; omega
      · obtain rfl : k = 256 := by omega
        have l := Lib.hid hb
        clear hrl hb hU
        have hs := HS.out.below l.out
        clear HS
        go_wp2_with fail
        refine (drawBiasOf _ hs hn).mono ?_
        rintro e wx ⟨c, u, v, rfl, hb⟩
        have l := carryS l hb
        clear hb hs
        obtain ⟨wt, rfl⟩ : ∃ wt : World, wt = wx := ⟨_, rfl⟩
        go_wp2_with (first | (refine wpList_loadH rfl _ _ rfl _ rfl (by assumption) Try.underlying27 rfl size27 (byteRow_size _ _) ?_) | (refine wpList_storeNew rfl _ _ _ rfl _ rfl rfl zeroBox size27 (byteRow_size _ _) (byteRow_size _ _) (byteRow_all _ _) ?_; intro wy kb hb; have l := carryS l hb; have kb := Lib.hid kb; clear hb))
        refine (implBiasOf c u v _).mono ?_
        rintro e wx ⟨rfl, hb⟩
        have kb := carryB kb hb
        have l := carryS l hb
        clear hb
        go_wp2_with (refine wpList_loadH rfl _ _ rfl _ rfl (by assumption) Try.underlying27 rfl size27 (byteRow_size _ _) ?_)
        refine (implLinearityOf c _).mono ?_
        rintro e wx ⟨rfl, hb⟩
        have kb := carryB kb hb
        have l := carryS l hb
        clear hb
        go_wp2_with (refine wpList_loadH rfl _ _ rfl _ rfl (by assumption) Try.underlying27 rfl size27 (byteRow_size _ _) ?_)
        refine (specBiasOf c u v _).mono ?_
        rintro e wx ⟨rfl, hb⟩
        have kb := carryB kb hb
        have l := carryS l hb
        clear hb
        go_wp2_with (first | (refine wpList_loadH rfl _ _ rfl _ rfl (by assumption) Try.underlying27 rfl size27 (byteRow_size _ _) ?_) | (refine wpList_loadG rfl _ _ rfl _ rfl (by assumption) Try.underlying27 rfl size27 (byteRow_size _ _) ?_))
        refine (specLinearityOf c _).mono ?_
        rintro e wx ⟨rfl, hb⟩
        have kb := carryB kb hb
        have l := carryS l hb
        clear hb
        have hB := bias_lin c u v
        obtain ⟨X, eX⟩ : ∃ X, biasTo c u v 256 = X := ⟨_, rfl⟩
        obtain ⟨L, eL⟩ : ∃ L, linTo c 255 = L := ⟨_, rfl⟩
        have hX := biasTo_le c u v 256
        rw [eX] at hB hX
        rw [eX, eL]
        rw [eL] at hB
        have hX1 : -256 ≤ X := by omega
        have hX2 : X ≤ 256 := by omega
        clear eX eL hX
        have hj : (v.toNat : Int) = 0 ∨ (((v.toNat : Int) != 0) = true ∧ decide (L < X) = false ∧ decide (L < -X) = false) := by
          by_cases hv : v.toNat = 0
          · exact .inl (by omega)
          · have := hB hv
            have hne : ¬ (v.toNat : Int) = 0 := by omega
            exact .inr ⟨by simpa using hne, decide_eq_false (by omega), decide_eq_false (by omega)⟩
        clear hB
        have hP := parseval c v
        have HP := Lib.hid hP
        clear hP
        rcases hj with hv | ⟨hv, g1, g2⟩
        all_goals
          go_wp2_with fail
          go_loopw [14, 13] (fun i t wr => ∃ k : Nat, k ≤ 256 ∧ i = .int .i64 k ∧ t = .int .i64 (sumF (fun w => biasTo c (UInt8.ofNat w) v 256 * biasTo c (UInt8.ofNat w) v 256) k) ∧ Blk wr wt.heap.size 27 (byteRow 256 c) ∧ Below w.heap.size w wr)
            (fun i _ _ => 256 - (intOf i).toNat)
          case atStart => exact ⟨0, by omega, rfl, rfl, kb.out, l.out⟩
          case round =>
            clear kb l
            obtain ⟨k, hk, rfl, rfl, hkb, hb⟩ := hrel
            have kb := Lib.hid hkb
            have l := Lib.hid hb
            clear hkb hb
            by_cases hlt : k < 256
            · have hki : (k : Int) < 256 := by omega
              obtain ⟨x, hx⟩ : ∃ x : UInt8, x.toNat = k := ⟨UInt8.ofNat k, toNat_ofNat_lt hlt⟩
              subst hx
              have hwk : IntKind.u8.wrap (x.toNat : Int) = (x.toNat : Int) := wrapU8_small hlt
              have hsb := sq_sum (f := fun w => biasTo c (UInt8.ofNat w) v 256 * biasTo c (UInt8.ofNat w) v 256) (fun i _ => sq_bound (biasTo_le c _ v 256).1 (biasTo_le c _ v 256).2) x.toNat hk
              have hst : sumF (fun w => biasTo c (UInt8.ofNat w) v 256 * biasTo c (UInt8.ofNat w) v 256) (x.toNat + 1) = sumF (fun w => biasTo c (UInt8.ofNat w) v 256 * biasTo c (UInt8.ofNat w) v 256) x.toNat + biasTo c x v 256 * biasTo c x v 256 := by
                show _ + biasTo c (UInt8.ofNat x.toNat) v 256 * biasTo c (UInt8.ofNat x.toNat) v 256 = _
                rw [UInt8.ofNat_toNat]
              have hob := sq_bound (biasTo_le c x v 256).1 (biasTo_le c x v 256).2
              have C := Lib.hid (implBiasOf c x v)
              obtain ⟨o, ho⟩ : ∃ o, biasTo c x v 256 = o := ⟨_, rfl⟩
              rw [ho] at hst hob C
              try rw [hv] at C
              have hst := Lib.hid hst
              obtain ⟨T, hT⟩ : ∃ T, sumF (fun w => biasTo c (UInt8.ofNat w) v 256 * biasTo c (UInt8.ofNat w) v 256) x.toNat = T := ⟨_, rfl⟩
              have hst := hst.out
              rw [hT] at hst hsb
              rw [hT]
              have hst := Lib.hid hst
              have hwm : wrap64 (o * o) = o * o := by unfold wrap64; omega
              have hwa : wrap64 (T + o * o) = T + o * o := by unfold wrap64; omega
              clear ho hT hob hsb
              go_wp2_with (refine wpList_loadH rfl _ _ rfl _ rfl (by assumption) Try.underlying27 rfl size27 (byteRow_size _ _) ?_)
              refine (C.out _).mono ?_
              rintro e wx ⟨rfl, hb⟩
              have kb := carryB kb hb
              have l := carryS l hb
              clear hb
              go_wp2_with fail
              go_roundw
              case rel => exact ⟨x.toNat + 1, by omega, by go_num, by rw [hst.out, hwa], kb.out, l.out⟩
              case measure => simp [intOf]; omega
            · obtain rfl : k = 256 := by omega
              rw [HP.out]
              go_wp2_with (refine wpList_loadH rfl _ _ rfl _ rfl (by assumption) Try.underlying27 rfl size27 (byteRow_size _ _) ?_)
              refine (implDegreeOf c _).mono ?_
              rintro e wx ⟨rfl, hb⟩
              have kb := carryB kb hb
              have l := carryS l hb
              clear hb
              have hdl := degMax_le (deg c 8) 256 (Nat.le_refl _)
              have hdp := perm_deg (b := c)
              obtain ⟨D, hD⟩ : ∃ D, degMax (deg c 8) 256 = D := ⟨_, rfl⟩
              have E := Lib.hid (specDegreeOf c)
              rw [hD] at hdl hdp E
              rw [hD]
              obtain ⟨hd0, hd8⟩ := hdl
              clear hD
              go_wp2_with (first | (refine wpList_loadH rfl _ _ rfl _ rfl (by assumption) Try.underlying27 rfl size27 (byteRow_size _ _) ?_) | (refine wpList_loadG rfl _ _ rfl _ rfl (by assumption) Try.underlying27 rfl size27 (byteRow_size _ _) ?_))
              refine (E.out _).mono ?_
              rintro e wx ⟨rfl, hb⟩
              have kb := carryB kb hb
              have l := carryS l hb
              clear hb E
              go_wp2_with (first | (refine wpList_loadH rfl _ _ rfl _ rfl (by assumption) Try.underlying27 rfl size27 (byteRow_size _ _) ?_) | (refine wpList_loadG rfl _ _ rfl _ rfl (by assumption) Try.underlying27 rfl size27 (byteRow_size _ _) ?_))
              refine (specIsPermutation c _).mono ?_
              rintro e wx ⟨rfl, hb⟩
              have kb := carryB kb hb
              have l := carryS l hb
              clear hb
              cases hp : permB c with
              | false =>
                clear hdp
                go_wp2_with fail
                go_ret
                exact ⟨rfl, l.out⟩
              | true =>
                have hdp := hdp hp
                go_wp2_with fail
                go_ret
                exact ⟨rfl, l.out⟩
  · rw [decide_eq_true (show (4096 : Int) < (n : Int) by omega)] at G
    have G := Lib.hid G
    clear hs
    go_enter Try.func5, Try.ntmps5
    go_wp2_with fail
    refine G.out.mono ?_
    rintro e wx ⟨rfl, hw⟩
    obtain rfl : w = wx := hw.symm
    go_wp2_with fail
    go_ret
    exact ⟨rfl, Below.refl _ _⟩
end Go.Proofs.Ytphfiekhpicpgaa
