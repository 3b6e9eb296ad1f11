/- Contracts: the bits of a matrix over a field, by the program and by the reference, and the walk of the law. No condition. -/
import Derived.Test.YtnkfghoajpghkaaRows
import Derived.Test.YtnkfghoajpghkaaBitsS
set_option linter.unusedVariables false
namespace Go.Proofs.Ytnkfghoajpghkaa
open Go.RowKit Plain
theorem sizeUB : (Try.prog.info? 5).map (·.size) = some 1 := by kernel_rfl
theorem wrapI_nat {q : Nat} (h : q < 4294967296) : IntKind.i64.wrap (q : Int) = q := by
  rw [IntKind.wrap_i64]
  omega
theorem wrapI_8 {q : Nat} (h : q < 65536) : IntKind.i64.wrap (8 * (q : Int)) = 8 * (q : Int) := by
  rw [IntKind.wrap_i64]
  omega
def bmS (m : Nat) (a : Nat → UInt8) (i t bit : Nat) : Nat → Int := fun p => if p / 8 < i then (rowTo m a (p / 8) (p % 8) 32 : Int) else if p / 8 = i then (if p % 8 < bit then (rowTo m a i (p % 8) (t + 1) : Int) else (rowTo m a i (p % 8) t : Int)) else 0
theorem bmS_zero (m : Nat) (a : Nat → UInt8) (p : Nat) : bmS m a 0 0 0 p = 0 := by
  unfold bmS
  rw [if_neg (Nat.not_lt_zero _)]
  split
  · rw [if_neg (Nat.not_lt_zero _)]; rfl
  · rfl
theorem bmS_at (m : Nat) (a : Nat → UInt8) {i t bit : Nat} (hb : bit < 8) : bmS m a i t bit (i * 8 + bit) = (rowTo m a i bit t : Int) := by
  unfold bmS
  rw [show (i * 8 + bit) / 8 = i by omega, show (i * 8 + bit) % 8 = bit by omega, if_neg (Nat.lt_irrefl _), if_pos rfl, if_neg (Nat.lt_irrefl _)]
theorem bmS_put (m : Nat) (a : Nat → UInt8) {i t bit : Nat} (hb : bit < 8) (p : Nat) : upd (bmS m a i t bit) (i * 8 + bit) (rowTo m a i bit (t + 1) : Int) p = bmS m a i t (bit + 1) p := by
  unfold upd
  by_cases h : p = i * 8 + bit
  · subst h
    rw [if_pos rfl]
    unfold bmS
    rw [show (i * 8 + bit) / 8 = i by omega, show (i * 8 + bit) % 8 = bit by omega, if_neg (Nat.lt_irrefl _), if_pos rfl, if_pos (by omega)]
  · rw [if_neg h]
    unfold bmS
    by_cases h1 : p / 8 < i
    · rw [if_pos h1, if_pos h1]
    · rw [if_neg h1, if_neg h1]
      by_cases h2 : p / 8 = i
      · rw [if_pos h2, if_pos h2]
        by_cases h3 : p % 8 < bit
        · rw [if_pos h3, if_pos (by omega)]
        · rw [if_neg h3, if_neg (by omega)]
      · rw [if_neg h2, if_neg h2]
theorem bmS_bit (m : Nat) (a : Nat → UInt8) (i t p : Nat) : bmS m a i t 8 p = bmS m a i (t + 1) 0 p := by
  unfold bmS
  by_cases h1 : p / 8 < i
  · rw [if_pos h1, if_pos h1]
  · rw [if_neg h1, if_neg h1]
    by_cases h2 : p / 8 = i
    · rw [if_pos h2, if_pos h2, if_pos (by omega), if_neg (Nat.not_lt_zero _)]
    · rw [if_neg h2, if_neg h2]
theorem bmS_row (m : Nat) (a : Nat → UInt8) (i p : Nat) : bmS m a i 32 0 p = bmS m a (i + 1) 0 0 p := by
  unfold bmS
  by_cases h1 : p / 8 < i
  · rw [if_pos h1, if_pos (by omega)]
  · rw [if_neg h1]
    by_cases h2 : p / 8 = i
    · rw [if_pos h2, if_neg (Nat.not_lt_zero _), if_pos (by omega), h2]
    · rw [if_neg h2, if_neg (by omega)]
      split
      · rw [if_neg (Nat.not_lt_zero _)]; rfl
      · rfl
theorem bmS_end (m : Nat) (a : Nat → UInt8) {p : Nat} (hp : p < 32) : bmS m a 4 0 0 p = (rowTo m a (p / 8) (p % 8) 32 : Int) := by
  unfold bmS
  rw [if_pos (by omega)]
theorem bitsTo_at (m : Nat) (a : Nat → UInt8) : ∀ (n p : Nat), p < n → (bitsTo m a n).getD p 0 = (rowTo m a (p / 8) (p % 8) 32 : Int)
  | n + 1, p, hp => by
    unfold bitsTo
    rw [List.getD_eq_getElem?_getD, List.getElem?_append]
    have hl := bitsTo_len m a n
    by_cases h : p < n
    · rw [if_pos (by omega), ← List.getD_eq_getElem?_getD]
      exact bitsTo_at m a n p h
    · obtain rfl : p = n := by omega
      rw [if_neg (by omega), hl, Nat.sub_self]
      rfl
def bmN (m : Int) : Nat := if fieldB m = true then 32 else 0
def bmF (m : Int) (a : Nat → UInt8) : Nat → Int := fun p => (rowTo m.toNat a (p / 8) (p % 8) 32 : Int)
def bmC (m : Int) : Int := if fieldB m = true then 0 else 1
theorem bmN_le (m : Int) : bmN m ≤ 32 := by unfold bmN; split <;> omega
theorem ret_pairL {v v' : Value} {n m : Int} (h : v = v') (h2 : n = m) : Ending.returned (.tuple #[v, .int .i64 n]) = .returned (.tuple #[v', .int .i64 m]) := by rw [h, h2]
theorem rowF_nil64 {w : World} {B : Nat} {f : Nat → Value} {n : Nat} (hn : n = 0) : RowF w B 2 (.slice none 0 0) n f := by
  subst hn
  exact World.ownsRow_nil w B _ _
theorem bm_good {m : Nat} (h : fieldB (m : Int) = true) : bmN m = 32 ∧ bmC m = 0 := by
  unfold bmN bmC
  rw [if_pos h, if_pos h]
  exact ⟨rfl, rfl⟩
theorem bm_bad {m : Int} (h : fieldB m = false) : bmN m = 0 ∧ bmC m = 1 := by
  unfold bmN bmC
  rw [h]
  exact ⟨rfl, rfl⟩
set_option maxRecDepth 100000 in
set_option maxHeartbeats 800000 in
theorem specBitsOfMatrix (m : Int) (a : Nat → UInt8) (w : World) :
    Calls Try.prog 20 #[.int .i64 m, .agg (byteRow 16 a)] w fun e w' => ∃ v, e = .returned (.tuple #[v, .int .i64 (bmC m)]) ∧ RowF w' w.heap.size 2 v (bmN m) (lng (bmF m a)) ∧ Below w.heap.size w w' := by
  have k0 := Lib.hid (Blk.new w 30 (byteRow 16 a))
  have l := Lib.hid ((Below.refl w.heap.size w).alloc (Nat.le_refl _) (.cells (byteRow 16 a) 30))
  cases hf : fieldB m with
  | false =>
    obtain ⟨hv, hc⟩ := bm_bad hf
    have c := l01Field m
    rw [hf] at c
    have C := Lib.hid c
    clear c hf
    have Hv := Lib.hid hv; clear hv; have Hc := Lib.hid hc; clear hc
    go_enter Try.func20, Try.ntmps20
    go_wp2_with (go_at_call 49; refine (C.out _).mono ?_; rintro e wx ⟨rfl, rfl⟩)
    go_ret2
    exact ⟨_, ret_pairL rfl Hc.out.symm, rowF_nil64 Hv.out, l.out⟩
  | true =>
    have c := l01Field m
    rw [hf] at c
    have C := Lib.hid c
    clear c
    obtain ⟨n, rfl, h1, h2, hF⟩ := fieldB_nat hf
    obtain ⟨hv, hc⟩ := bm_good hf
    clear hF hf
    have Hv := Lib.hid hv; clear hv; have Hc := Lib.hid hc; clear hc
    go_enter Try.func20, Try.ntmps20
    go_wp2_with (first | (go_at_call 49; refine (C.out _).mono ?_; rintro e wx ⟨rfl, rfl⟩) | (refine wpList_loadH rfl _ _ rfl _ rfl (by assumption) Try.underlying30 rfl size30 (byteRow_size _ _) ?_))
    refine (l03Bits n a h1 h2 _).mono ?_
    rintro e wx ⟨v, rfl, hl, hb⟩
    have hr := ((hl.mono (show w.heap.size ≤ _ from by simp; omega)).rowF)
    rw [bitsTo_len] at hr
    have hr := hr.congr (f' := lng (bmF n a)) (fun p hp => by show Value.int .i64 _ = .int .i64 _; rw [bitsTo_at n a 32 p hp]; rfl)
    have l := carryS l hb
    clear hl hb
    have Hr := Lib.hid hr; clear hr
    go_wp2_with fail
    go_ret2
    exact ⟨_, ret_pairL rfl Hc.out.symm, by rw [Hv.out]; exact Hr.out, l.out⟩
set_option maxRecDepth 100000 in
set_option maxHeartbeats 1600000 in
theorem implBitsOfMatrix (m : Int) (a : Nat → UInt8) (w : World) :
    Calls Try.prog 21 #[.int .i64 m, .agg (byteRow 16 a)] w fun e w' => ∃ v, e = .returned (.tuple #[v, .int .i64 (bmC m)]) ∧ RowF w' w.heap.size 2 v (bmN m) (lng (bmF m a)) ∧ Below w.heap.size w w' := by
  obtain ⟨i0, hi, hz, hsz, hby⟩ := info_parts info_long
  have k0 := Lib.hid (Blk.new w 30 (byteRow 16 a))
  have l := Lib.hid ((Below.refl w.heap.size w).alloc (Nat.le_refl _) (.cells (byteRow 16 a) 30))
  cases hf : fieldB m with
  | false =>
    obtain ⟨hv, hc⟩ := bm_bad hf
    have c := implIsField m
    rw [hf] at c
    have C := Lib.hid c
    clear c hf
    have Hv := Lib.hid hv; clear hv; have Hc := Lib.hid hc; clear hc
    go_enter Try.func21, Try.ntmps21
    go_wp2_with (go_at_call 51; refine (C.out _).mono ?_; rintro e wx ⟨rfl, rfl⟩)
    go_ret2
    exact ⟨_, ret_pairL rfl Hc.out.symm, rowF_nil64 Hv.out, l.out⟩
  | true =>
    have c := implIsField m
    rw [hf] at c
    have C := Lib.hid c
    clear c
    obtain ⟨n, rfl, h1, h2, hF⟩ := fieldB_nat hf
    obtain ⟨hv, hc⟩ := bm_good hf
    clear hF hf
    have Hv := Lib.hid hv; clear hv; have Hc := Lib.hid hc; clear hc
    go_enter Try.func21, Try.ntmps21
    go_wp2_with (first | (go_at_call 51; refine (C.out _).mono ?_; rintro e wx ⟨rfl, rfl⟩) | (at_make; refine wpList_makeF rfl _ _ _ rfl (w.heap.size + 1) 2 i0 (.int .i64 0) Try.underlying36 hi hz hsz (by omega) rfl 32 rfl rfl (by omega) (w.heap.size + 1) (by simp) (by omega) ?_; intro wy hr hg; have RR := Lib.hid hr; have k0 := Lib.hid (k0.out.grown hg (by simp)); have l := Lib.hid (below_grown l.out hg (by simp) (fun _ h => by cases h)); clear hr hg))
    go_loopw [17] (fun x wr => ∃ i : Nat, i ≤ 4 ∧ x = .int .i64 i ∧ RowF wr (w.heap.size + 1) 2 (.slice (some ⟨w.heap.size + 1, 0, none⟩) 32 32) 32 (lng (bmS n a i 0 0)) ∧ Blk wr w.heap.size 30 (byteRow 16 a) ∧ Below w.heap.size w wr)
      (fun x _ => 4 - (intOf x).toNat)
    case atStart => exact ⟨0, by omega, rfl, RR.out.congr fun p _ => by show _ = Value.int .i64 (bmS n a 0 0 0 p); rw [bmS_zero], k0.out, l.out⟩
    case round =>
      clear RR k0 l
      obtain ⟨i, hi4, rfl, hr, b0, hb⟩ := hrel
      by_cases hit : i < 4
      · have hii : (i : Int) < 4 := by omega
        have H0 := Lib.hid b0
        clear b0
        have Hr := Lib.hid hr; clear hr; have Hb := Lib.hid hb; clear hb
        obtain ⟨wo, rfl⟩ : ∃ wo : World, wo = wr := ⟨_, rfl⟩
        go_wp2_with (refine wpList_loadM rfl _ _ rfl _ (i * 4) rfl H0 (by omega) Try.underlying28 rfl size28 ?_)
        go_loopw [23] (fun x wr => ∃ j : Nat, j ≤ 4 ∧ x = .int .i64 j ∧ RowF wr (w.heap.size + 1) 2 (.slice (some ⟨w.heap.size + 1, 0, none⟩) 32 32) 32 (lng (bmS n a i (j * 8) 0)) ∧ Blk wr w.heap.size 30 (byteRow 16 a) ∧ Below w.heap.size w wr)
          (fun x _ => 4 - (intOf x).toNat)
        case atStart => exact ⟨0, by omega, rfl, Hr.out, H0.out, Hb.out⟩
        case round =>
          clear Hr H0 Hb
          obtain ⟨j, hj4, rfl, hr, b0, hb⟩ := hrel
          by_cases hjt : j < 4
          · have hji : (j : Int) < 4 := by omega
            have ix := fun (w : World) => run_index_row (w := w) .i64 Try.underlying28 sizeUB (.inl Try.underlying5) hjt (byteRow_at (fun j => a (i * 4 + j)) hjt)
            have Hr := Lib.hid hr; clear hr; have Hb := Lib.hid hb; clear hb; have H0 := Lib.hid b0; clear b0
            obtain ⟨wo, rfl⟩ : ∃ wo : World, wo = wr := ⟨_, rfl⟩
            go_wp2
            go_loopw [27] (fun x wr => ∃ b : Nat, b ≤ 8 ∧ x = .int .i64 b ∧ RowF wr (w.heap.size + 1) 2 (.slice (some ⟨w.heap.size + 1, 0, none⟩) 32 32) 32 (lng (bmS n a i (j * 8 + b) 0)) ∧ Blk wr w.heap.size 30 (byteRow 16 a) ∧ Below w.heap.size w wr)
              (fun x _ => 8 - (intOf x).toNat)
            case atStart => exact ⟨0, by omega, rfl, Hr.out, H0.out, Hb.out⟩
            case round =>
              clear Hr H0 Hb
              obtain ⟨b, hb9, rfl, hr, b0, hb⟩ := hrel
              by_cases hbb : b < 8
              · have hbbi : (b : Int) < 8 := by omega
                obtain ⟨t, ht⟩ : ∃ t, j * 8 + b = t := ⟨_, rfl⟩
                have ht32 : t < 32 := by omega
                have hti : (8 : Int) * (j : Int) + (b : Int) = (t : Int) := by omega
                have hbe : ∀ bit, bitAt n a i bit t = timesI n (a (i * 4 + j)).toNat (2 ^ b) / 2 ^ bit % 2 := fun bit => by
                  unfold bitAt
                  rw [← ht, show (j * 8 + b) / 8 = j by omega, show (j * 8 + b) % 8 = b by omega]
                have hp := pow_byte hbb
                have ho := fTimes n (a (i * 4 + j)).toNat (2 ^ b) h1 h2 (a (i * 4 + j)).toNat_lt hp
                have htl := timesI_lt (b := 2 ^ b) h1 h2 (a (i * 4 + j)).toNat_lt
                obtain ⟨pb, hpb⟩ : ∃ pb, 2 ^ b = pb := ⟨_, rfl⟩
                have f0 : (2 : Int) ^ b = (pb : Int) := by rw [← hpb]; push_cast; rfl
                rw [hpb] at ho htl hp
                simp only [hpb] at hbe
                have f1 : (pb : Int) % 256 = pb := by omega
                obtain ⟨y, hy⟩ : ∃ y, timesI n (a (i * 4 + j)).toNat pb = y := ⟨_, rfl⟩
                rw [hy] at ho htl
                simp only [hy] at hbe
                have HO := Lib.hid ho
                have HE := Lib.hid hbe
                have HT := Lib.hid ht
                rw [ht] at hr
                clear ho hpb hy hbe ht
                have Hr := Lib.hid hr; clear hr; have Hb := Lib.hid hb; clear hb; have H0 := Lib.hid b0; clear b0
                obtain ⟨wo, rfl⟩ : ∃ wo : World, wo = wr := ⟨_, rfl⟩
                go_wp2_with (go_at_call 58; refine (HO.out _).mono ?_; rintro e wx ⟨rfl, rfl⟩)
                go_loopw [35] (fun x wr => ∃ bit : Nat, bit ≤ 8 ∧ x = .int .i64 bit ∧ RowF wr (w.heap.size + 1) 2 (.slice (some ⟨w.heap.size + 1, 0, none⟩) 32 32) 32 (lng (bmS n a i t bit)) ∧ Blk wr w.heap.size 30 (byteRow 16 a) ∧ Below w.heap.size w wr)
                  (fun x _ => 8 - (intOf x).toNat)
                case atStart => exact ⟨0, by omega, rfl, Hr.out, H0.out, Hb.out⟩
                case round =>
                  clear Hr H0 Hb
                  obtain ⟨bit, hb8, rfl, hr, b0, hb⟩ := hrel
                  by_cases hbt : bit < 8
                  · have hbi : (bit : Int) < 8 := by omega
                    obtain ⟨p, hp0⟩ : ∃ p, i * 8 + bit = p := ⟨_, rfl⟩
                    have hp32 : p < 32 := by omega
                    have hpi : (8 : Int) * (i : Int) + (bit : Int) = (p : Int) := by omega
                    have e1 := bmS_at n a (i := i) (t := t) hbt
                    rw [hp0] at e1
                    have c1 : wr.cell? ⟨w.heap.size + 1, p, none⟩ = some (.int .i64 (rowTo n a i bit t : Int)) := (hr.at_ hp32).trans (by show some (Value.int .i64 (bmS n a i t bit p)) = _; rw [e1])
                    have fz := hr.fz p
                    have hro : rowTo n a i bit (t + 1) = rowTo n a i bit t ||| bitAt n a i bit t * 2 ^ t := rfl
                    have hbe := HE.out bit
                    have hrs := rowTo_small n a i bit (t := t) (by omega)
                    have f2 := u8_bit bit htl
                    rw [← hbe] at f2
                    have hx1 : bitAt n a i bit t ≤ 1 := by rw [hbe]; omega
                    obtain ⟨x, hx⟩ : ∃ x, bitAt n a i bit t = x := ⟨_, rfl⟩
                    rw [hx] at f2 hro hx1
                    have hxt := bit_facts2 hx1 ht32
                    obtain ⟨z, hz2⟩ : ∃ z, x * 2 ^ t = z := ⟨_, rfl⟩
                    rw [hz2] at hxt hro
                    have f3 : (x : Int) * 2 ^ t = (z : Int) := by rw [← hz2]; push_cast; rfl
                    obtain ⟨r, hr0⟩ : ∃ r, rowTo n a i bit t = r := ⟨_, rfl⟩
                    rw [hr0] at hro hrs c1
                    have f4 := long_or40 r z (by omega) (by omega)
                    rw [← hro] at f4
                    have f5 : wrap64 (z : Int) = z := by unfold wrap64; omega
                    have hput := fun q => bmS_put n a (i := i) (t := t) hbt q
                    rw [hp0] at hput
                    obtain ⟨y2, hy2⟩ : ∃ y2, rowTo n a i bit (t + 1) = y2 := ⟨_, rfl⟩
                    rw [hy2] at f4
                    simp only [hy2] at hput
                    have hp32i : (p : Int) < 32 := by omega
                    have g1 : IntKind.i64.wrap (8 * (i : Int)) = 8 * (i : Int) := wrapI_8 (by omega)
                    have g2 : IntKind.i64.wrap (p : Int) = p := wrapI_nat (by omega)
                    have g3 : IntKind.i64.wrap (8 * (j : Int)) = 8 * (j : Int) := wrapI_8 (by omega)
                    have g4 : IntKind.i64.wrap (t : Int) = t := wrapI_nat (by omega)
                    have g5 : IntKind.i64.wrap (x : Int) = x := wrapI_nat (by omega)
                    have g6 : IntKind.i64.wrap (z : Int) = z := wrapI_nat (by omega)
                    clear hx hz2 hr0 hro hbe e1 hy2
                    have Hr := Lib.hid hr; clear hr; have Hb := Lib.hid hb; clear hb; have H0 := Lib.hid b0; clear b0; have Hput := Lib.hid hput; clear hput; have Hp0 := Lib.hid hp0; clear hp0
                    go_upto_region 17 with fail
                    go_still_tail 19, rfl
                    change wpList _ _ _ _ _ wr.drew
                    go_wp2
                    go_roundw
                    case rel => exact ⟨bit + 1, by omega, by go_num, by have := Hr.out.put p (.int .i64 (y2 : Int)); rw [lng_put] at this; exact this.congr fun q _ => by show Value.int .i64 _ = .int .i64 _; rw [Hput.out q], H0.out.farC (by omega) _, (Hb.out.setCell (p := ⟨w.heap.size + 1, p, none⟩) (by show _ ≤ _ + 1; omega) _).drew⟩
                    case measure => simp [intOf]; omega
                  · obtain rfl : bit = 8 := by omega
                    have hr' := hr.congr (f' := lng (bmS n a i (j * 8 + (b + 1)) 0)) fun q _ => by show Value.int .i64 _ = .int .i64 _; rw [bmS_bit, ← HT.out]; rfl
                    clear hr
                    have Hr' := Lib.hid hr'; clear hr'; have Hb := Lib.hid hb; clear hb; have H0 := Lib.hid b0; clear b0
                    go_wp2
                    go_roundw
                    case rel => exact ⟨b + 1, by omega, by go_num, Hr'.out, H0.out, Hb.out⟩
                    case measure => simp [intOf]; omega
              · obtain rfl : b = 8 := by omega
                have hr' := hr.congr (f' := lng (bmS n a i ((j + 1) * 8) 0)) fun q _ => by show Value.int .i64 _ = .int .i64 _; rw [show (j + 1) * 8 = j * 8 + 8 by omega]
                clear hr
                have Hr' := Lib.hid hr'; clear hr'; have Hb := Lib.hid hb; clear hb; have H0 := Lib.hid b0; clear b0
                go_wp2
                go_roundw
                case rel => exact ⟨j + 1, by omega, by go_num, Hr'.out, H0.out, Hb.out⟩
                case measure => simp [intOf]; omega
          · obtain rfl : j = 4 := by omega
            have hr' := hr.congr (f' := lng (bmS n a (i + 1) 0 0)) fun q _ => by show Value.int .i64 _ = .int .i64 _; rw [← bmS_row]
            clear hr
            have Hr' := Lib.hid hr'; clear hr'; have Hb := Lib.hid hb; clear hb; have H0 := Lib.hid b0; clear b0
            go_wp2
            go_roundw
            case rel => exact ⟨i + 1, by omega, by go_num, Hr'.out, H0.out, Hb.out⟩
            case measure => simp [intOf]; omega
      · obtain rfl : i = 4 := by omega
        have hr' := (hr.mono (show w.heap.size ≤ w.heap.size + 1 by omega)).congr (f' := lng (bmF n a)) fun q hq => by show Value.int .i64 _ = .int .i64 _; rw [bmS_end n a hq]; rfl
        clear hr
        have Hr' := Lib.hid hr'; clear hr'; have Hb := Lib.hid hb; clear hb
        go_wp2
        go_ret2
        exact ⟨_, ret_pairL rfl Hc.out.symm, by rw [Hv.out]; exact Hr'.out, Hb.out⟩
set_option maxRecDepth 100000 in
set_option maxHeartbeats 1600000 in
theorem fnExactBitsOfMatrix.walk (m : Int) (b : Nat → UInt8) (w : World) (lo0 : -9223372036854775808 ≤ m) (hi0 : m ≤ 9223372036854775807) :
    Calls Try.prog 5 #[.int .i64 m, .agg (byteRow 16 b)] w fun e w' => e = .returned (.bool true) ∧ Below w.heap.size w w' := by
  go_enter Try.func5, Try.ntmps5
  have k0 := Lib.hid (Blk.new w 29 (byteRow 16 b))
  have l := Lib.hid ((Below.refl w.heap.size w).alloc (Nat.le_refl _) (.cells (byteRow 16 b) 29))
  go_wp2_with (refine wpList_loadH rfl _ _ rfl _ rfl (by assumption) Try.underlying29 rfl size29 (byteRow_size _ _) ?_)
  refine (toMatrix _ _).mono ?_
  rintro e wx ⟨rfl, hb⟩
  have k0 := carryB k0 hb
  have l := carryS l hb
  clear hb
  go_wp2_with (refine wpList_loadH rfl _ _ rfl _ rfl (by assumption) Try.underlying29 rfl size29 (byteRow_size _ _) ?_)
  refine (specBitsOfMatrix _ _ _).mono ?_
  rintro e wx ⟨vw, rfl, hr, hb⟩
  have hr := hr.mono (show w.heap.size + 1 ≤ _ from by have := k0.out.lt; omega)
  have k0 := carryB k0 hb
  have l := carryS l hb
  have rw := Lib.hid hr
  clear hr hb
  go_wp2_with (refine wpList_loadH rfl _ _ rfl _ rfl (by assumption) Try.underlying29 rfl size29 (byteRow_size _ _) ?_)
  refine (toMatrix _ _).mono ?_
  rintro e wx ⟨rfl, hb⟩
  have k0 := carryB k0 hb
  have l := carryS l hb
  have rw := carryR rw hb
  clear hb
  go_wp2_with (refine wpList_loadH rfl _ _ rfl _ rfl (by assumption) Try.underlying29 rfl size29 (byteRow_size _ _) ?_)
  refine (implBitsOfMatrix _ _ _).mono ?_
  rintro e wx ⟨vg, rfl, hr, hb⟩
  have ne := Lib.hid (rows_apart rw.out hr (by omega))
  have hr := hr.mono (show w.heap.size + 1 ≤ _ from by have := k0.out.lt; omega)
  have k0 := carryB k0 hb
  have l := carryS l hb
  have rw := carryR rw hb
  have rg := Lib.hid hr
  clear hr hb
  go_wp2_with (refine wpList_loadH rfl _ _ rfl _ rfl (by assumption) Try.underlying29 rfl size29 (byteRow_size _ _) ?_)
  refine (eqInt64S _ rg.out rw.out).mono ?_
  rintro e wx ⟨rfl, hb⟩
  have k0 := carryB k0 hb
  have l := carryS l hb
  have rw := carryR rw hb
  have rg := carryR rg hb
  clear hb
  go_wp2_with (refine wpList_loadH rfl _ _ rfl _ rfl (by assumption) Try.underlying29 rfl size29 (byteRow_size _ _) ?_)
  refine (markInt64S (q0 := 1) _ rg.out (by omega) (by have := bmN_le m; omega)).mono ?_
  rintro e wx ⟨rfl, hr, hg⟩
  have k0 := Lib.hid (k0.out.grown hg (fun hq => by have := (hr.lt _ hq.symm).1; omega))
  have l := Lib.hid (below_grown l.out hg (by have := l.out.size; omega) (fun q hq => by have := (hr.lt q hq).1; omega))
  have rw := Lib.hid (rw.out.kept hg ne.out)
  have rg := Lib.hid hr
  clear hr hg
  go_wp2_with (refine wpList_loadH rfl _ _ rfl _ rfl (by assumption) Try.underlying29 rfl size29 (byteRow_size _ _) ?_)
  refine (heldInt64S (q0 := 1) _ rg.out (by omega) (by have := bmN_le m; omega)).mono ?_
  rintro e wx ⟨rfl, hb⟩
  have k0 := carryB k0 hb
  have l := carryS l hb
  have rw := carryR rw hb
  have rg := carryR rg hb
  clear hb
  go_wp2_with (refine wpList_loadH rfl _ _ rfl _ rfl (by assumption) Try.underlying29 rfl size29 (byteRow_size _ _) ?_)
  refine (toMatrix _ _).mono ?_
  rintro e wx ⟨rfl, hb⟩
  have k0 := carryB k0 hb
  have l := carryS l hb
  have rw := carryR rw hb
  have rg := carryR rg hb
  clear hb
  go_wp2_with (refine wpList_loadH rfl _ _ rfl _ rfl (by assumption) Try.underlying29 rfl size29 (byteRow_size _ _) ?_)
  refine (implBitsOfMatrix _ _ _).mono ?_
  rintro e wx ⟨vh, rfl, hr, hb⟩
  have hr := hr.mono (show w.heap.size + 1 ≤ _ from by have := k0.out.lt; omega)
  have k0 := carryB k0 hb
  have l := carryS l hb
  have rw := carryR rw hb
  have rg := carryR rg hb
  have rh := Lib.hid hr
  clear hr hb
  go_wp2_with (refine wpList_loadH rfl _ _ rfl _ rfl (by assumption) Try.underlying29 rfl size29 (byteRow_size _ _) ?_)
  refine (eqInt64S _ rh.out rw.out).mono ?_
  rintro e wx ⟨rfl, hb⟩
  have k0 := carryB k0 hb
  have l := carryS l hb
  have rw := carryR rw hb
  have rg := carryR rg hb
  clear hb
  go_wp2_with (refine wpList_loadH rfl _ _ rfl _ rfl (by assumption) Try.underlying29 rfl size29 (byteRow_size _ _) ?_)
  refine (heldInt64S (q0 := 1) _ rg.out (by omega) (by have := bmN_le m; omega)).mono ?_
  rintro e wx ⟨rfl, hb⟩
  have k0 := carryB k0 hb
  have l := carryS l hb
  clear hb
  go_wp2_with (refine wpList_loadH rfl _ _ rfl _ rfl (by assumption) Try.underlying29 rfl size29 (byteRow_size _ _) ?_)
  go_ret
  exact ⟨rfl, l.out⟩
end Go.Proofs.Ytnkfghoajpghkaa
